/- Parts of the proof that follows. No condition. -/
import Derived.RegionTactic
import Derived.ChangeAlike
import Derived.Test.YtidfcoooccblaaaGreatBho11
set_option maxRecDepth 100000
set_option maxHeartbeats 8000000
set_option linter.unusedSimpArgs false
set_option linter.unusedVariables false
namespace Go.Proofs.YtidfcoooccblaaaGreat
open Go.RowKit Go.Shelf
attribute [local simp] Oper.looksAt Op.operands Call.operands Al Det Ap
attribute [local go_sem] Oper.semAt_some
def Ux (w:World) (s:A3) (ps po:Option Addr) (cs co:Nat) (a':Act) (W:World):Prop:=
 Below w.heap.size w W/\Blk W w.heap.size #[.string s.name,s.eps,s.floor,s.last,s.scale,.slice ps s.segs.length cs,.slice po s.opn.length co] 25/\Blk W (w.heap.size+1) #[.int .i64 0] 28/\∃i:Nat,(∃u:Nat->Value,a'= {tmps:= #[.agg #[.string s.name,s.eps,s.floor,s.last,s.scale,.slice ps s.segs.length cs,.slice po s.opn.length co],.pointer (some ⟨w.heap.size,0,none⟩),.pointer (some ⟨w.heap.size+1,0,none⟩),u 3,u 4,u 5,u 6,u 7,u 8,u 9,u 10,u 11,u 12,u 13,u 14,u 15,u 16,u 17,u 18,u 19,u 20,u 21,u 22,u 23,u 24,.slice ps s.segs.length cs,.int .i64 (s.segs.length:Int),.int .i64 (i:Int),u 28,u 29,u 30,u 31,u 32,u 33,u 34,u 35,u 36,u 37,u 38,u 39,u 40,u 41,u 42,u 43,u 44,u 45,u 46,u 47,u 48,u 49,u 50,u 51,u 52,u 53,u 54,u 55,u 56,u 57,u 58,u 59,u 60,u 61,u 62,u 63,u 64,u 65,u 66,u 67,u 68,u 69,u 70,u 71,u 72,u 73,u 74,u 75,u 76,u 77,u 78,u 79,u 80,u 81,u 82,u 83],defers:= []})/\i<=s.segs.length/\(∀j x,j<i->s.segs[j]? =some x->L7 s.eps s.floor x=true)
def Uw (w:World) (s:A3) (ps po:Option Addr) (cs co:Nat) (a':Act) (W:World):Prop:=
 Below w.heap.size w W/\Blk W w.heap.size #[.string s.name,s.eps,s.floor,s.last,s.scale,.slice ps s.segs.length cs,.slice po s.opn.length co] 25/\Blk W (w.heap.size+1) #[.int .i64 0] 28/\∃i:Nat,(∃u:Nat->Value,a'= {tmps:= #[.agg #[.string s.name,s.eps,s.floor,s.last,s.scale,.slice ps s.segs.length cs,.slice po s.opn.length co],.pointer (some ⟨w.heap.size,0,none⟩),.pointer (some ⟨w.heap.size+1,0,none⟩),u 3,u 4,u 5,u 6,u 7,u 8,u 9,u 10,u 11,u 12,u 13,u 14,u 15,u 16,u 17,u 18,u 19,u 20,u 21,u 22,u 23,u 24,u 25,u 26,u 27,u 28,u 29,u 30,u 31,u 32,u 33,u 34,u 35,u 36,u 37,u 38,u 39,u 40,u 41,u 42,u 43,u 44,.slice po s.opn.length co,.int .i64 (s.opn.length:Int),.int .i64 (i:Int),u 48,u 49,u 50,u 51,u 52,u 53,u 54,u 55,u 56,u 57,u 58,u 59,u 60,u 61,u 62,u 63,u 64,u 65,u 66,u 67,u 68,u 69,u 70,u 71,u 72,u 73,u 74,u 75,u 76,u 77,u 78,u 79,u 80,u 81,u 82,u 83],defers:= []})/\i<=s.opn.length/\(∀j x,j<i->s.opn[j]? =some x->L8 s.floor x=true)
theorem check_in (s:A3) (ps po:Option Addr) (cs co:Nat) (w:World) (hin:A9 w s ps po):
  CallsIn Fence.wide 4 Tryz.prog 14 #[.agg (Cd s ps cs po co)] w fun e w'=>e= .returned (.int .i64 (Du s))/\Below w.heap.size w w':=by
 have hfS:=hin.fewS
 have hfO:=hin.fewO
 unfold Cd
 refine callsIn_of_wp_marks Tryz.func14 rfl trivial ?_ rfl
 simp only[Tryz.ntmps14,List.size_toArray,List.length_cons,List.length_nil,Nat.reduceAdd,Nat.reduceSub,Array.replicate_succ,Array.replicate_zero,List.push_toArray,List.append_toArray,List.nil_append,List.cons_append]
 refine wpIn_wide.2 ?_
 have hNS:N5 s=(Mo s.name&&btw s.eps 0 1099511627776&&btw s.scale (-40) 40&&btw s.floor 0 281474976710656&&btw s.last (-1) 281474976710656):=by unfold N5;simp[Bool.and_assoc]
 have c1:=fun W=>c_srNums s.name s.eps s.floor s.last s.scale ps po s.segs.length cs s.opn.length co W
 rw[<-hNS] at c1
 clear hNS
 obtain⟨N,hN⟩:∃N,N5 s=N:=⟨_,rfl⟩
 rw[hN] at c1
 have c2:=fun W (h:A9 W s ps po)=>Ye ps cs s.segs W (by omega) h.segs
 obtain⟨E,hE⟩:∃E:Int,(if Ly (-1) s.segs=true then 0 else 240)=E:=⟨_,rfl⟩
 rw[hE] at c2
 obtain⟨RES,hRES⟩:∃z,Du s=z:=⟨_,rfl⟩
 rw[hRES]
 replace hN:=Hd hN
 replace hE:=Hd hE
 replace c1:=Hd c1
 replace c2:=Hd c2
 replace hRES:=Hd hRES
 go_upto_region 1 with(fail)
 refine Bw (fun W'=>Below w.heap.size w W'/\Blk W' w.heap.size #[.string s.name,s.eps,s.floor,s.last,s.scale,.slice ps s.segs.length cs,.slice po s.opn.length co] 25/\Blk W' (w.heap.size+1) #[.int .i64 0] 28) ⟨by exact Aa,by exact Ab,by exact Ab⟩ ?_
 rintro W1 ⟨hW,b1,b2⟩
 have z2:=hW.size
 have z3:=b1.lt
 have z4:=b2.lt
 refine Df 15 84 [] (fun W'=>Rex [] W1 W'/\Blk W' w.heap.size #[.string s.name,s.eps,s.floor,s.last,s.scale,.slice ps s.segs.length cs,.slice po s.opn.length co] 25/\Blk W' (w.heap.size+1) #[.int .i64 0] 28) (by kernel_rfl) rfl ⟨(Rex.refl _ _),b1,b2⟩ (fun w w' ⟨h0,h1,h2⟩ hr=>⟨h0.trans hr,h1.rex hr (by simp<;>omega),h2.rex hr (by simp<;>omega)⟩) ?_
 iterate 1
  apply Aj (hg:=rfl) (hal:=rfl)
  ·intro a W' hC hE
   obtain⟨_,k1,k2⟩:=hC
   have k1:=k1.cell
   first
    |(simp at hE;simp[go_sem,Act.eval,iw,hE,k1,k2];try rfl)
    |(clear hE;simp[go_sem,Act.eval,iw,k1,k2];try rfl)
 refine Az rfl rfl (fun W' hC=>c1.out W') (fun a W' hC hE=> ?_) ?_
 ·obtain⟨_,k1,k2⟩:=hC
  have k1:=k1.cell
  first
   |(simp at hE;simp[go_sem,Act.eval,iw,hE,k1,k2];try rfl)
   |(clear hE;simp[go_sem,Act.eval,iw,k1,k2];try rfl)
 iterate 2
  apply Aj (hg:=rfl) (hal:=rfl)
  ·intro a W' hC hE
   obtain⟨_,k1,k2⟩:=hC
   have k1:=k1.cell
   first
    |(simp at hE;simp[go_sem,Act.eval,iw,hE,k1,k2];try rfl)
    |(clear hE;simp[go_sem,Act.eval,iw,k1,k2];try rfl)
 iterate 2
  apply Bn (p:=true) (hg:=rfl) (hd:=rfl) (hal:=rfl)
  ·intro v W' h
   simp[Al,Det,Ap] at h
   simp
   exact h
  ·intro hp hx a W' hC hE
   obtain⟨_,k1,k2⟩:=hC
   have k1:=k1.cell
   simp[hx] at hE
   simp[go_sem,Act.eval,iw,hE,k1,k2]
   try rfl
 apply Ce (p:=true) (hg:=rfl) (hd:=rfl) (hal:=rfl)
 ·intro v W' h
  simp at h
  simp
  exact h
 ·intro hp hx W' hC
  exact c2.out W' (hin.below (hW.trans (hC.1.of_priv hW.size)))
 ·intro hp hx a W' hC hE
  obtain⟨_,k1,k2⟩:=hC
  have k1:=k1.cell
  first
   |(simp[hx] at hE;simp[go_sem,Act.eval,iw,hE,k1,k2];try rfl)
   |(clear hE;simp[go_sem,Act.eval,iw,k1,k2];try rfl)
 iterate 8
  first
  |(
   apply Bn (p:=true) (hg:=rfl) (hd:=rfl) (hal:=rfl)
   ·intro v W' h
    simp[Al,Det,Ap] at h
    simp
    exact h
   ·intro hp hx a W' hC hE
    obtain⟨_,k1,k2⟩:=hC
    have k1:=k1.cell
    simp[hx] at hE
    simp[go_sem,Act.eval,iw,hE,k1,k2]
    try rfl)
  |(
   apply D4 (ho:=rfl) (hg:=rfl)
   ·intro v W' h
    simp at h
    exact h
   ·intro v W' h hx
    simp[hx] at h
    exact h)
  |(
   apply Aj (hg:=rfl) (hal:=rfl)
   ·intro a W' hC hE
    obtain⟨_,k1,k2⟩:=hC
    have k1:=k1.cell
    first
     |(simp at hE;simp[go_sem,Act.eval,iw,hE,k1,k2];try rfl)
     |(clear hE;simp[go_sem,Act.eval,iw,k1,k2];try rfl))
 rintro W5 ⟨hR,d1,d2⟩
 simp only[Av,Det,forall_eq]
 intros
 repeat (rename Ap _ _ _ _=>hgd;clear hgd)
 simp only[nS]
 refine wpList_nil ?_
 replace hW:=hW.trans (hR.of_priv hW.size)
 clear hR
 try clear b1 b2
 have b1:=d1
 clear d1
 have b2:=d2
 clear d2
 have k1:=b1.cell
 have f1:=b1.frozen
 have k2:=b2.cell
 have f2:=b2.frozen
 clear c1 c2
 have y1:=b1.lt
 have y2:=b2.lt
 obtain⟨F,hF⟩:∃F,(!N||E !=0||decide (32<=(s.opn.length:Int)))=F:=⟨_,rfl⟩
 rw[hF]
 simp only[Exit.then]
 cases F with
 |true=>
  replace hRES:=Hd (show RES=340 by
   rw[<-hRES.out];unfold Du;rw[if_neg];intro hh
   unfold Bv at hh
   simp only[Bool.and_eq_true,decide_eq_true_eq] at hh
   have h1:=hN.out;have h2:=hE.out
   rw[hh.1] at h1
   rw[if_pos hh.2.1] at h2
   subst h1;subst h2
   simp at hF
   omega)
  clear hF
  go_wp2
  simp only[bodyPostM]
  have b9:Blk (W5.setCell ⟨w.heap.size+1,0,none⟩ (.int .i64 340)) (w.heap.size+1) #[.int .i64 340] 28:=Ab
  have k9:=b9.cell
  refine⟨.int .i64 340,by simp[results,Tryz.f14,go_sem,k9],by rw[hRES.out],Aa⟩
 |false=>
  have hN1:N=true:=by cases N with|true=>rfl|false=>simp at hF
  have hE1:E=0:=by subst hN1;simp at hF;exact hF.1
  have hO1:s.opn.length<32:=by subst hN1;simp at hF;omega
  have hrow:Ly (-1) s.segs=true:=by
   have:=hE.out
   rw[hE1] at this
   cases h:Ly (-1) s.segs with
   |true=>rfl
   |false=>rw[h] at this;simp at this
  have hnum:N5 s=true:=by rw[hN.out,hN1]
  have hv:=Hd (Nx hrow)
  replace hrow:=Hd hrow
  replace hnum:=Hd hnum
  clear hF hN hE hN1 hE1
  go_wp2
  refine wp_loop (Ux w s ps po cs co) (fun a' _=>s.segs.length-(Aq (a'.tmps.getD 27 undef)).toNat) ?_ ?_
  ·unfold Ux
   exact⟨hW,b1,b2,0,Ag rfl,Nat.zero_le _,fun j x hj=>by omega⟩
  ·clear b1 b2 k1 f1 k2 f2 y1 y2 hW
   rintro a' W ⟨hW0,b1,b2,i,⟨u,rfl⟩,hi',hall⟩
   have hz:=hW0.size
   have zb1:=b1.lt
   have zb2:=b2.lt
   replace hall:=Hd hall
   rcases Nat.lt_or_ge i s.segs.length with hlt|hge
   ·obtain⟨x,tr⟩:∃r,s.segs[i]? =some r:=⟨s.segs[i]'(by omega),List.getElem?_eq_getElem (by omega)⟩
    have hsx:=hv.out x (List.mem_of_getElem? tr)
    obtain⟨b,o,p',q',cp,vc,rfl,hs,hvc,q0,q1,q2,q3,q4,q5,q6,q7⟩:=(hin.below hW0).segs.one tr
    have c3:=fun W' (hW':Below W.heap.size W W')=>c_srLast x p' q' cp vc W' (hs.below hW') hsx
    unfold C7 at c3
    obtain⟨L,hL⟩:∃L,Db x.runs=L:=⟨_,rfl⟩
    rw[hL] at c3
    replace c3:=Hd c3
    replace hL:=Hd hL
    replace tr:=Hd tr
    clear hs hsx
    have k1:=b1.cell
    have f1:=b1.frozen
    have k2:=b2.cell
    have f2:=b2.frozen
    go_upto_region 6 with(fail)
    clear k1 f1 k2 f2
    refine Bw (fun W'=>Below W.heap.size W W'/\Blk W' w.heap.size #[.string s.name,s.eps,s.floor,s.last,s.scale,.slice (some ⟨b,o,none⟩) s.segs.length cs,.slice po s.opn.length co] 25/\Blk W' (w.heap.size+1) #[.int .i64 0] 28/\Blk W' W.heap.size #[x.K,.slice p' x.runs.length cp,x.A,x.R,x.n,x.d,.slice q' x.raw.length vc,x.E] 98) ⟨by exact Aa,by exact Ab,by exact Ab,by exact Ab⟩ ?_
    clear b1 b2
    rintro W21 ⟨hW,b1,b2,b3⟩
    have z22:=hW.size
    have z23:=b1.lt
    have z24:=b2.lt
    have z25:=b3.lt
    refine Kd 12 84 [] (fun W'=>Rex [] W21 W'/\Blk W' w.heap.size #[.string s.name,s.eps,s.floor,s.last,s.scale,.slice (some ⟨b,o,none⟩) s.segs.length cs,.slice po s.opn.length co] 25/\Blk W' (w.heap.size+1) #[.int .i64 0] 28/\Blk W' W.heap.size #[x.K,.slice p' x.runs.length cp,x.A,x.R,x.n,x.d,.slice q' x.raw.length vc,x.E] 98) Co (by kernel_rfl) rfl ⟨(Rex.refl _ _).drew,b1,b2,b3⟩ (fun w w' ⟨h0,h1,h2,h3⟩ hr=>⟨h0.trans hr,h1.rex hr (by simp<;>omega),h2.rex hr (by simp<;>omega),h3.rex hr (by simp<;>omega)⟩) rfl ?_
    iterate 6
     apply Aj (hg:=rfl) (hal:=rfl)
     ·intro a W' hC hE
      obtain⟨_,k1,k2,k3⟩:=hC
      have k1:=k1.cell
      have k3:=k3.cell
      first
       |(simp at hE;simp[go_sem,Act.eval,iw,hE,k1,k2,k3];try rfl)
       |(clear hE;simp[go_sem,Act.eval,iw,k1,k2,k3];try rfl)
    iterate 1
     apply Bn (p:=true) (hg:=rfl) (hd:=rfl) (hal:=rfl)
     ·intro v W' h
      simp[Al,Det,Ap] at h
      simp
      exact h
     ·intro hp hx a W' hC hE
      obtain⟨_,k1,k2,k3⟩:=hC
      have k1:=k1.cell
      have k3:=k3.cell
      simp[hx] at hE
      simp[go_sem,Act.eval,iw,hE,k1,k2,k3]
      try rfl
    apply Ce (p:=true) (hg:=rfl) (hd:=rfl) (hal:=rfl)
    ·intro v W' h
     simp at h
     simp
     exact h
    ·intro hp hx W' hC
     exact c3.out W' (hW.trans (hC.1.of_priv hW.size))
    ·intro hp hx a W' hC hE
     obtain⟨_,k1,k2,k3⟩:=hC
     have k1:=k1.cell
     have k3:=k3.cell
     first
      |(simp[hx] at hE;simp[go_sem,Act.eval,iw,hE,k1,k2,k3];try rfl)
      |(clear hE;simp[go_sem,Act.eval,iw,k1,k2,k3];try rfl)
    iterate 3
     apply Bn (p:=true) (hg:=rfl) (hd:=rfl) (hal:=rfl)
     ·intro v W' h
      simp[Al,Det,Ap] at h
      simp
      exact h
     ·intro hp hx a W' hC hE
      obtain⟨_,k1,k2,k3⟩:=hC
      have k1:=k1.cell
      have k3:=k3.cell
      simp[hx] at hE
      simp[go_sem,Act.eval,iw,hE,k1,k2,k3]
      try rfl
    apply D4 (ho:=rfl) (hg:=rfl)
    ·intro v W' h
     simp at h
     exact h
    ·intro v W' h hx
     simp[hx] at h
     exact h
    rintro W26 ⟨hR,d1,d2,d3⟩
    simp only[Av,Det,forall_eq]
    intros
    repeat (rename Ap _ _ _ _=>hgd;clear hgd)
    simp only[nS]
    refine wpList_nil ?_
    replace hW:=hW.trans (hR.of_priv hW.size)
    clear hR
    try clear b1 b2 b3
    have b1:=d1
    clear d1
    have b2:=d2
    clear d2
    have b3:=d3
    clear d3
    have k1:=b1.cell
    have f1:=b1.frozen
    have k2:=b2.cell
    have f2:=b2.frozen
    have k3:=b3.cell
    have f3:=b3.frozen
    have y1:=b1.lt
    have y2:=b2.lt
    obtain⟨F,hF⟩:∃F,(decide (s.eps<x.E)||decide (L<s.floor))=F:=⟨_,rfl⟩
    rw[hF]
    simp only[Exit.then]
    have hin2:L7 s.eps s.floor x= !F:=by
     rw[<-hF];unfold L7;rw[hL.out,Bool.eq_iff_iff];simp
    clear hF
    cases F with
    |true=>
     replace hRES:=Hd (show RES=340 by
      rw[<-hRES.out];unfold Du;rw[if_neg];intro hh
      unfold Bv at hh
      simp only[Bool.and_eq_true,decide_eq_true_eq] at hh
      have:=List.all_eq_true.1 hh.2.2.2.1 x (List.mem_of_getElem? tr.out)
      rw[hin2] at this;cases this)
     clear hin2
     go_wp2
     simp only[bodyPostM]
     have b9:Blk (W26.setCell ⟨w.heap.size+1,0,none⟩ (.int .i64 340)) (w.heap.size+1) #[.int .i64 340] 28:=Ab
     have k9:=b9.cell
     refine⟨.int .i64 340,by simp[results,Tryz.f14,go_sem,k9],by rw[hRES.out],(hW0.trans (hW.mono hz)).setCell (by simp) _⟩
    |false=>
     replace hin2:=Hd hin2
     go_wp2
     rw[show (i:Int)+1=((i+1:Nat):Int) by omega]
     refine⟨?_,by simp[Aq];omega⟩
     unfold Ux
     exact⟨hW0.trans (hW.mono hz),b1,b2,i+1,Ag rfl,by omega,fun j z hj hz=>by
      rcases Nat.lt_or_ge j i with h|h
      ·exact hall.out j z h hz
      ·obtain rfl:j=i:=by omega
       rw[tr.out] at hz
       injection hz with hz
       rw[<-hz];exact hin2.out⟩
   ·obtain rfl:i=s.segs.length:=by omega
    have hseg:=Hd (show s.segs.all (L7 s.eps s.floor)=true by
     rw[List.all_eq_true]
     intro x hx
     obtain⟨k,hk⟩:=List.getElem?_of_mem hx
     exact hall.out k x (List.getElem?_eq_some_iff.1 hk).1 hk)
    clear hall
    have k1:=b1.cell
    go_wp2
    clear k1
    refine wp_loop (Uw w s ps po cs co) (fun a' _=>s.opn.length-(Aq (a'.tmps.getD 47 undef)).toNat) ?_ ?_
    ·unfold Uw
     exact⟨hW0,b1,b2,0,Ag rfl,Nat.zero_le _,fun j x hj=>by omega⟩
    ·clear b1 b2 zb1 zb2 hz hW0
     rintro a' W ⟨hW0,b1,b2,i,⟨u,rfl⟩,hi',hall⟩
     have hz:=hW0.size
     have zb1:=b1.lt
     have zb2:=b2.lt
     replace hall:=Hd hall
     rcases Nat.lt_or_ge i s.opn.length with hlt|hge
     ·obtain⟨⟨t,v⟩,tr⟩:∃r,s.opn[i]? =some r:=⟨s.opn[i]'(by omega),List.getElem?_eq_getElem (by omega)⟩
      obtain⟨b,o,rfl,q0,q1⟩:=(hin.below hW0).opn.at' i _ tr
      simp only at q0 q1
      obtain⟨B5,hB5⟩:∃B,btw t s.floor 281474976710656=B:=⟨_,rfl⟩
      obtain⟨B6,hB6⟩:∃B,btw v (-2305843009213693952) 2305843009213693952=B:=⟨_,rfl⟩
      have c5:=fun W=>Lm t s.floor 281474976710656 W
      have c6:=fun W=>Lm v (-2305843009213693952) 2305843009213693952 W
      rw[hB5] at c5
      rw[hB6] at c6
      have hin2:L8 s.floor (t,v)=(B5&&B6):=by rw[<-hB5,<-hB6];rfl
      replace c5:=Hd c5
      replace c6:=Hd c6
      replace tr:=Hd tr
      clear hB5 hB6
      have k1:=b1.cell
      have f1:=b1.frozen
      have k2:=b2.cell
      have f2:=b2.frozen
      go_upto_region 12 with(fail)
      clear k1 f1 k2 f2
      refine Bw (fun W'=>Below W.heap.size W W'/\Blk W' w.heap.size #[.string s.name,s.eps,s.floor,s.last,s.scale,.slice ps s.segs.length cs,.slice (some ⟨b,o,none⟩) s.opn.length co] 25/\Blk W' (w.heap.size+1) #[.int .i64 0] 28/\Blk W' W.heap.size #[t,v] 91) ⟨by exact Aa,by exact Ab,by exact Ab,by exact Ab⟩ ?_
      clear b1 b2
      rintro W21 ⟨hW,b1,b2,b3⟩
      have z22:=hW.size
      have z23:=b1.lt
      have z24:=b2.lt
      have z25:=b3.lt
      refine Df 12 84 [] (fun W'=>Rex [] W21 W'/\Blk W' w.heap.size #[.string s.name,s.eps,s.floor,s.last,s.scale,.slice ps s.segs.length cs,.slice (some ⟨b,o,none⟩) s.opn.length co] 25/\Blk W' (w.heap.size+1) #[.int .i64 0] 28/\Blk W' W.heap.size #[t,v] 91) (by kernel_rfl) rfl ⟨(Rex.refl _ _),b1,b2,b3⟩ (fun w w' ⟨h0,h1,h2,h3⟩ hr=>⟨h0.trans hr,h1.rex hr (by simp<;>omega),h2.rex hr (by simp<;>omega),h3.rex hr (by simp<;>omega)⟩) ?_
      iterate 4
       apply Aj (hg:=rfl) (hal:=rfl)
       ·intro a W' hC hE
        obtain⟨_,k1,k2,k3⟩:=hC
        have k1:=k1.cell
        have k3:=k3.cell
        first
         |(simp at hE;simp[go_sem,Act.eval,iw,hE,k1,k2,k3];try rfl)
         |(clear hE;simp[go_sem,Act.eval,iw,k1,k2,k3];try rfl)
      refine Az rfl rfl (fun W' hC=>c5.out W') (fun a W' hC hE=> ?_) ?_
      ·obtain⟨_,k1,k2,k3⟩:=hC
       have k1:=k1.cell
       have k3:=k3.cell
       first
        |(simp at hE;simp[go_sem,Act.eval,iw,hE,k1,k2,k3];try rfl)
        |(clear hE;simp[go_sem,Act.eval,iw,k1,k2,k3];try rfl)
      iterate 2
       apply Aj (hg:=rfl) (hal:=rfl)
       ·intro a W' hC hE
        obtain⟨_,k1,k2,k3⟩:=hC
        have k1:=k1.cell
        have k3:=k3.cell
        first
         |(simp at hE;simp[go_sem,Act.eval,iw,hE,k1,k2,k3];try rfl)
         |(clear hE;simp[go_sem,Act.eval,iw,k1,k2,k3];try rfl)
      iterate 2
       apply Bn (p:=true) (hg:=rfl) (hd:=rfl) (hal:=rfl)
       ·intro v W' h
        simp[Al,Det,Ap] at h
        simp
        exact h
       ·intro hp hx a W' hC hE
        obtain⟨_,k1,k2,k3⟩:=hC
        have k1:=k1.cell
        have k3:=k3.cell
        simp[hx] at hE
        simp[go_sem,Act.eval,iw,hE,k1,k2,k3]
        try rfl
      apply Ce (p:=true) (hg:=rfl) (hd:=rfl) (hal:=rfl)
      ·intro v W' h
       simp at h
       simp
       exact h
      ·intro hp hx W' hC
       exact c6.out W'
      ·intro hp hx a W' hC hE
       obtain⟨_,k1,k2,k3⟩:=hC
       have k1:=k1.cell
       have k3:=k3.cell
       first
        |(simp[hx] at hE;simp[go_sem,Act.eval,iw,hE,k1,k2,k3];try rfl)
        |(clear hE;simp[go_sem,Act.eval,iw,k1,k2,k3];try rfl)
      iterate 1
       apply Bn (p:=true) (hg:=rfl) (hd:=rfl) (hal:=rfl)
       ·intro v W' h
        simp[Al,Det,Ap] at h
        simp
        exact h
       ·intro hp hx a W' hC hE
        obtain⟨_,k1,k2,k3⟩:=hC
        have k1:=k1.cell
        have k3:=k3.cell
        simp[hx] at hE
        simp[go_sem,Act.eval,iw,hE,k1,k2,k3]
        try rfl
      apply D4 (ho:=rfl) (hg:=rfl)
      ·intro v W' h
       simp at h
       exact h
      ·intro v W' h hx
       simp[hx] at h
       exact h
      rintro W26 ⟨hR,d1,d2,d3⟩
      simp only[Av,Det,forall_eq]
      intros
      repeat (rename Ap _ _ _ _=>hgd;clear hgd)
      simp only[nS]
      refine wpList_nil ?_
      replace hW:=hW.trans (hR.of_priv hW.size)
      clear hR
      try clear b1 b2 b3
      have b1:=d1
      clear d1
      have b2:=d2
      clear d2
      have b3:=d3
      clear d3
      have k1:=b1.cell
      have f1:=b1.frozen
      have k2:=b2.cell
      have f2:=b2.frozen
      have k3:=b3.cell
      have f3:=b3.frozen
      have y1:=b1.lt
      have y2:=b2.lt
      obtain⟨F,hF⟩:∃F,(!B5|| !B6)=F:=⟨_,rfl⟩
      rw[hF]
      simp only[Exit.then]
      cases F with
      |true=>
       replace hRES:=Hd (show RES=340 by
        rw[<-hRES.out];unfold Du;rw[if_neg];intro hh
        unfold Bv at hh
        simp only[Bool.and_eq_true,decide_eq_true_eq] at hh
        have:=List.all_eq_true.1 hh.2.2.2.2.1 (t,v) (List.mem_of_getElem? tr.out)
        rw[hin2] at this
        cases B5<;>cases B6<;>simp at hF this)
       clear hin2 hF
       go_wp2
       simp only[bodyPostM]
       have b9:Blk (W26.setCell ⟨w.heap.size+1,0,none⟩ (.int .i64 340)) (w.heap.size+1) #[.int .i64 340] 28:=Ab
       have k9:=b9.cell
       refine⟨.int .i64 340,by simp[results,Tryz.f14,go_sem,k9],by rw[hRES.out],(hW0.trans (hW.mono hz)).setCell (by simp) _⟩
      |false=>
       replace hin2:=Hd (show L8 s.floor (t,v)=true by rw[hin2];cases B5<;>cases B6<;>simp at hF⊢)
       clear hF
       go_wp2
       rw[show (i:Int)+1=((i+1:Nat):Int) by omega]
       refine⟨?_,by simp[Aq];omega⟩
       unfold Uw
       exact⟨hW0.trans (hW.mono hz),b1,b2,i+1,Ag rfl,by omega,fun j z hj hz=>by
        rcases Nat.lt_or_ge j i with h|h
        ·exact hall.out j z h hz
        ·obtain rfl:j=i:=by omega
         rw[tr.out] at hz
         injection hz with hz
         rw[<-hz];exact hin2.out⟩
     ·obtain rfl:i=s.opn.length:=by omega
      have hopn:=Hd (show s.opn.all (L8 s.floor)=true by
       rw[List.all_eq_true]
       intro x hx
       obtain⟨k,hk⟩:=List.getElem?_of_mem hx
       exact hall.out k x (List.getElem?_eq_some_iff.1 hk).1 hk)
      clear hall
      have k1:=b1.cell
      go_wp2_with fail
      refine(Pu _ _ _ _ _ _ _ _ _ _ _ _).mono ?_
      rintro e w' ⟨rfl,rfl⟩
      clear k1
      have c1:Below w.heap.size w ((W.alloc (.cells #[.int .i64 (-1)] 2)).alloc (.cells #[.string s.name,s.eps,s.floor,s.last,s.scale,.slice ps s.segs.length cs,.slice po s.opn.length co] 25)):=Aa
      have d1:Blk ((W.alloc (.cells #[.int .i64 (-1)] 2)).alloc (.cells #[.string s.name,s.eps,s.floor,s.last,s.scale,.slice ps s.segs.length cs,.slice po s.opn.length co] 25)) w.heap.size #[.string s.name,s.eps,s.floor,s.last,s.scale,.slice ps s.segs.length cs,.slice po s.opn.length co] 25:=Ab
      have d2:Blk ((W.alloc (.cells #[.int .i64 (-1)] 2)).alloc (.cells #[.string s.name,s.eps,s.floor,s.last,s.scale,.slice ps s.segs.length cs,.slice po s.opn.length co] 25)) (w.heap.size+1) #[.int .i64 0] 28:=Ab
      have d3:Blk ((W.alloc (.cells #[.int .i64 (-1)] 2)).alloc (.cells #[.string s.name,s.eps,s.floor,s.last,s.scale,.slice ps s.segs.length cs,.slice po s.opn.length co] 25)) W.heap.size #[.int .i64 (-1)] 2:=Ab
      have d4:Blk ((W.alloc (.cells #[.int .i64 (-1)] 2)).alloc (.cells #[.string s.name,s.eps,s.floor,s.last,s.scale,.slice ps s.segs.length cs,.slice po s.opn.length co] 25)) (W.heap.size+1) #[.string s.name,s.eps,s.floor,s.last,s.scale,.slice ps s.segs.length cs,.slice po s.opn.length co] 25:=Blk.new' (by simp)
      have hsz:((W.alloc (.cells #[.int .i64 (-1)] 2)).alloc (.cells #[.string s.name,s.eps,s.floor,s.last,s.scale,.slice ps s.segs.length cs,.slice po s.opn.length co] 25)).heap.size=W.heap.size+1+1:=by simp
      simp only[World.size_alloc]
      obtain⟨W0,hWe⟩:∃W0,W0=((W.alloc (.cells #[.int .i64 (-1)] 2)).alloc (.cells #[.string s.name,s.eps,s.floor,s.last,s.scale,.slice ps s.segs.length cs,.slice po s.opn.length co] 25)):=⟨_,rfl⟩
      rw[<-hWe] at c1 d1 d2 d3 d4 hsz⊢
      clear hWe hW0
      go_wp2
      refine(wpIn_wide (n:=4)).1 ?_
      refine wpIn_rangeFunc_ownG rfl (by omega) (gf:=113) (lb:= #[.pointer (some ⟨W.heap.size+1,0,none⟩)]) rfl trivial (enters_of Tryz.func113 (by kernel_rfl) rfl)
       (encs:=fun x:Int=> #[Value.int .i64 x]) (Kp:=KF w.heap.size (W.heap.size+1)) (S:=fun ys=>ys=Do s) (Sp:=fun pre=>pre<+:Do s) (N:=(Do s).length) (w0:=W0)
       (fun lr J Jx Wx hWW hJ _ hY h0=>Mk 3 (by omega) lr (W.heap.size+1) (W.heap.size+1) s ps po cs co w hin hv.out (by omega) (Nat.le_refl _) J Jx _ hJ hY Wx (c1.trans (hWW.mono c1.size)) (d4.below hWW) h0)
       (fun h k=>h.trans k) (KF.putObj (by omega)) (Below.refl _ _) (fun _=>rfl)
       (fun pre Wx=>((Blk Wx w.heap.size #[.string s.name,s.eps,s.floor,s.last,s.scale,.slice ps s.segs.length cs,.slice po s.opn.length co] 25/\Blk Wx (w.heap.size+1) #[.int .i64 0] 28)/\Blk Wx W.heap.size #[.int .i64 (Ft (-1) pre)] 2)/\(F4 (-1) pre=true)/\Below w.heap.size w Wx)
       (fun c pre Wx=>Blk Wx (w.heap.size+1) #[.int .i64 340] 28/\(c= .ret/\F4 (-1) pre=false)/\Below w.heap.size w Wx)
       (OwnFrom.and (OwnFrom.and (OwnFrom.and (Own.from (D0 _ _ _) _) (Own.from (D0 _ _ _) _)) (Own.from (D0 _ _ _) _)) (OwnFrom.and (ownFrom_pure _ _) (ownFrom_below (Nat.le_refl _) (by omega))))
       (fun c=>OwnFrom.and (Own.from (D0 _ _ _) _) (OwnFrom.and (ownFrom_pure _ _) (ownFrom_below (Nat.le_refl _) (by omega))))
       ⟨⟨⟨d1,d2⟩,d3⟩,rfl,c1⟩
       ?a1 ?assign ?body ?done ?stop
      case assign=>
       intro l x Wx K hK
       gi_wp2
       exact hK
      case body=>
       rintro l pre x Wx ⟨⟨⟨i1,i2⟩,i3⟩,i4,i5⟩ hlt
       have hz5:=i5.size
       have y1:=i1.lt
       have y2:=i2.lt
       have y3:=i3.lt
       have k2:=i2.cell
       have f2:=i2.frozen
       have k3:=i3.cell
       have f3:=i3.frozen
       obtain⟨A,hA⟩:∃A,Ft (-1) pre=A:=⟨_,rfl⟩
       have hr:=Hd (Ny pre (-1) x)
       have hl:=Hd (Mr pre (-1) x)
       rw[hA] at i3 k3
       by_cases hlt2:A<x
       ·have hr2:=Hd (show F4 (-1) (pre++ [x])=true by rw[hr.out,i4,hA];simp[hlt2])
        clear hA i4
        gi_wp2
        exact⟨KeepsOthers.from (Dr) _,kfAny,⟨⟨⟨Ab,Ab⟩,by rw[hl.out];exact Ab⟩,hr2.out,Aa⟩⟩
       ·have hr2:=Hd (show F4 (-1) (pre++ [x])=false by rw[hr.out,hA];simp[hlt2])
        have hle:x<=A:=by omega
        clear hA i4 hlt2
        gi_wp2
        exact⟨KeepsOthers.from (Dr) _,⟨Ab,⟨rfl,hr2.out⟩,Aa⟩⟩
      case done=>
       rintro D ys Wx hD rfl ⟨⟨⟨i1,i2⟩,i3⟩,i4,i5⟩ hK
       have hz5:=i5.size
       have y1:=i1.lt
       have y2:=i2.lt
       have y3:=i3.lt
       have k1:=i1.cell
       have k2:=i2.cell
       have f2:=i2.frozen
       have k3:=i3.cell
       have hrise:=Hd i4
       clear i4
       obtain⟨A,hA⟩:∃A,Ft (-1) (Do s)=A:=⟨_,rfl⟩
       rw[hA] at i3 k3
       replace hA:=Hd hA
       have hck:=Hd (show Bv s=(Sr s&&decide (Po s<=1024)) by
        unfold Bv
        rw[hnum.out,hrow.out,hseg.out,hopn.out,hrise.out,decide_eq_true hO1]
        simp)
       simp only[Exit.inBlock,Exit.then]
       by_cases hlast:0<=A/\s.last≠A
       ·replace hRES:=Hd (show RES=340 by
         rw[<-hRES.out];unfold Du;rw[if_neg];rw[hck.out];intro hh
         rw[Bool.and_eq_true] at hh
         have:=hh.1
         unfold Sr at this
         rw[hA.out] at this
         simp at this
         omega)
        obtain⟨h0,h1⟩:=hlast
        have h1:(s.last !=A)=true:=by simpa using h1
        go_wp2
        have b9:Blk (Wx.setCell ⟨w.heap.size+1,0,none⟩ (.int .i64 340)) (w.heap.size+1) #[.int .i64 340] 28:=Ab
        have hK9:(Wx.setCell ⟨w.heap.size+1,0,none⟩ (.int .i64 340)).heap[D]? =some (.deferred (some [])):=(Dr:KeepsOthers _ (Wx.setCell ⟨w.heap.size+1,0,none⟩ (.int .i64 340))).same D _ hK rfl
        have hB9:Below w.heap.size w (Wx.setCell ⟨w.heap.size+1,0,none⟩ (.int .i64 340)):=Aa
        simp only[bodyPostM]
        refine⟨by simp,.inl ⟨_,_,rfl,run_takeDeferred hK9,?_⟩⟩
        have hc9:=cell_kept (by simpa using b9.cell 0) (grownBy_putObj' (Wx.setCell ⟨w.heap.size+1,0,none⟩ (.int .i64 340)) D (.deferred none)) (fun r e=>by cases e;exact⟨_,hK9,rfl⟩)
        refine⟨.int .i64 340,by simp[results,Tryz.f14,go_sem,hc9],by rw[hRES.out],hB9.trans (belowK_b (w:=w) (Nat.le_refl _) (Wx.setCell ⟨w.heap.size+1,0,none⟩ (.int .i64 340)) D _ _ (by omega) hK9 rfl rfl)⟩
       ·have hlb:=Hd (show Sr s=true by
         unfold Sr
         rw[hA.out]
         simp
         omega)
        have ckk:=fun W (hW:Below Wx.heap.size Wx W)=>c_srKept s ps po cs co W (hin.below (i5.trans (hW.mono hz5))) hv.out
        unfold Cd at ckk
        have hkn:Po s<=25700:=Nat.le_trans (List.length_filter_le _ _) (O5 hin hv.out)
        obtain⟨KN,hKN⟩:∃z,Po s=z:=⟨_,rfl⟩
        rw[hKN] at ckk hkn
        replace hKN:=Hd hKN
        replace ckk:=Hd ckk
        by_cases h0:0<=A
        ·have h1:(s.last !=A)=false:=by simp;omega
         clear hlast
         go_wp2_with fail
         refine(ckk.out _ Aa).mono ?_
         rintro e w3 ⟨rfl,hb3⟩
         have j1:=i1.below hb3
         have j2:=i2.below hb3
         have hK3:w3.heap[D]? =some (.deferred (some [])):=(hb3.block D (Cf hK)).trans hK
         have hB3:=i5.trans (hb3.mono hz5)
         have z3':=hB3.size
         have y2':=j2.lt
         have k2':=j2.cell
         have f2':=j2.frozen
         clear i1 i2 i3 i5 hK ckk k1 k2 f2 k3 y1 y2 y3
         have hK:=hK3
         clear hK3 hb3
         by_cases hkn2:KN<=1024
         ·replace hRES:=Hd (show RES=0 by
           rw[<-hRES.out];unfold Du;rw[if_pos];rw[hck.out,hlb.out,hKN.out];simp[hkn2])
          go_wp2
          have b9:Blk (w3.setCell ⟨w.heap.size+1,0,none⟩ (.int .i64 0)) (w.heap.size+1) #[.int .i64 0] 28:=Ab
          have hK9:(w3.setCell ⟨w.heap.size+1,0,none⟩ (.int .i64 0)).heap[D]? =some (.deferred (some [])):=(Dr:KeepsOthers _ (w3.setCell ⟨w.heap.size+1,0,none⟩ (.int .i64 0))).same D _ hK rfl
          have hB9:Below w.heap.size w (w3.setCell ⟨w.heap.size+1,0,none⟩ (.int .i64 0)):=Aa
          simp only[bodyPostM]
          refine⟨by simp,.inl ⟨_,_,rfl,run_takeDeferred hK9,?_⟩⟩
          have hc9:=cell_kept (by simpa using b9.cell 0) (grownBy_putObj' (w3.setCell ⟨w.heap.size+1,0,none⟩ (.int .i64 0)) D (.deferred none)) (fun r e=>by cases e;exact⟨_,hK9,rfl⟩)
          refine⟨.int .i64 0,by simp[results,Tryz.f14,go_sem,hc9],by rw[hRES.out],hB9.trans (belowK_b (w:=w) (Nat.le_refl _) (w3.setCell ⟨w.heap.size+1,0,none⟩ (.int .i64 0)) D _ _ (by omega) hK9 rfl rfl)⟩
         ·replace hRES:=Hd (show RES=340 by
           rw[<-hRES.out];unfold Du;rw[if_neg];rw[hck.out,hlb.out,hKN.out];simp[hkn2])
          have hkn3:1024<KN:=by omega
          clear hkn2
          go_wp2
          have b9:Blk (w3.setCell ⟨w.heap.size+1,0,none⟩ (.int .i64 340)) (w.heap.size+1) #[.int .i64 340] 28:=Ab
          have hK9:(w3.setCell ⟨w.heap.size+1,0,none⟩ (.int .i64 340)).heap[D]? =some (.deferred (some [])):=(Dr:KeepsOthers _ (w3.setCell ⟨w.heap.size+1,0,none⟩ (.int .i64 340))).same D _ hK rfl
          have hB9:Below w.heap.size w (w3.setCell ⟨w.heap.size+1,0,none⟩ (.int .i64 340)):=Aa
          simp only[bodyPostM]
          refine⟨by simp,.inl ⟨_,_,rfl,run_takeDeferred hK9,?_⟩⟩
          have hc9:=cell_kept (by simpa using b9.cell 0) (grownBy_putObj' (w3.setCell ⟨w.heap.size+1,0,none⟩ (.int .i64 340)) D (.deferred none)) (fun r e=>by cases e;exact⟨_,hK9,rfl⟩)
          refine⟨.int .i64 340,by simp[results,Tryz.f14,go_sem,hc9],by rw[hRES.out],hB9.trans (belowK_b (w:=w) (Nat.le_refl _) (w3.setCell ⟨w.heap.size+1,0,none⟩ (.int .i64 340)) D _ _ (by omega) hK9 rfl rfl)⟩
        ·have h0':A<0:=by omega
         clear hlast h0
         go_wp2_with fail
         refine(ckk.out _ Aa).mono ?_
         rintro e w3 ⟨rfl,hb3⟩
         have j1:=i1.below hb3
         have j2:=i2.below hb3
         have hK3:w3.heap[D]? =some (.deferred (some [])):=(hb3.block D (Cf hK)).trans hK
         have hB3:=i5.trans (hb3.mono hz5)
         have z3':=hB3.size
         have y2':=j2.lt
         have k2':=j2.cell
         have f2':=j2.frozen
         clear i1 i2 i3 i5 hK ckk k1 k2 f2 k3 y1 y2 y3
         have hK:=hK3
         clear hK3 hb3
         by_cases hkn2:KN<=1024
         ·replace hRES:=Hd (show RES=0 by
           rw[<-hRES.out];unfold Du;rw[if_pos];rw[hck.out,hlb.out,hKN.out];simp[hkn2])
          go_wp2
          have b9:Blk (w3.setCell ⟨w.heap.size+1,0,none⟩ (.int .i64 0)) (w.heap.size+1) #[.int .i64 0] 28:=Ab
          have hK9:(w3.setCell ⟨w.heap.size+1,0,none⟩ (.int .i64 0)).heap[D]? =some (.deferred (some [])):=(Dr:KeepsOthers _ (w3.setCell ⟨w.heap.size+1,0,none⟩ (.int .i64 0))).same D _ hK rfl
          have hB9:Below w.heap.size w (w3.setCell ⟨w.heap.size+1,0,none⟩ (.int .i64 0)):=Aa
          simp only[bodyPostM]
          refine⟨by simp,.inl ⟨_,_,rfl,run_takeDeferred hK9,?_⟩⟩
          have hc9:=cell_kept (by simpa using b9.cell 0) (grownBy_putObj' (w3.setCell ⟨w.heap.size+1,0,none⟩ (.int .i64 0)) D (.deferred none)) (fun r e=>by cases e;exact⟨_,hK9,rfl⟩)
          refine⟨.int .i64 0,by simp[results,Tryz.f14,go_sem,hc9],by rw[hRES.out],hB9.trans (belowK_b (w:=w) (Nat.le_refl _) (w3.setCell ⟨w.heap.size+1,0,none⟩ (.int .i64 0)) D _ _ (by omega) hK9 rfl rfl)⟩
         ·replace hRES:=Hd (show RES=340 by
           rw[<-hRES.out];unfold Du;rw[if_neg];rw[hck.out,hlb.out,hKN.out];simp[hkn2])
          have hkn3:1024<KN:=by omega
          clear hkn2
          go_wp2
          have b9:Blk (w3.setCell ⟨w.heap.size+1,0,none⟩ (.int .i64 340)) (w.heap.size+1) #[.int .i64 340] 28:=Ab
          have hK9:(w3.setCell ⟨w.heap.size+1,0,none⟩ (.int .i64 340)).heap[D]? =some (.deferred (some [])):=(Dr:KeepsOthers _ (w3.setCell ⟨w.heap.size+1,0,none⟩ (.int .i64 340))).same D _ hK rfl
          have hB9:Below w.heap.size w (w3.setCell ⟨w.heap.size+1,0,none⟩ (.int .i64 340)):=Aa
          simp only[bodyPostM]
          refine⟨by simp,.inl ⟨_,_,rfl,run_takeDeferred hK9,?_⟩⟩
          have hc9:=cell_kept (by simpa using b9.cell 0) (grownBy_putObj' (w3.setCell ⟨w.heap.size+1,0,none⟩ (.int .i64 340)) D (.deferred none)) (fun r e=>by cases e;exact⟨_,hK9,rfl⟩)
          refine⟨.int .i64 340,by simp[results,Tryz.f14,go_sem,hc9],by rw[hRES.out],hB9.trans (belowK_b (w:=w) (Nat.le_refl _) (w3.setCell ⟨w.heap.size+1,0,none⟩ (.int .i64 340)) D _ _ (by omega) hK9 rfl rfl)⟩
      case stop=>
       rintro D c pre Wx hD hpre ⟨i2,⟨rfl,i4⟩,i5⟩ hK
       have hz5:=i5.size
       have y2:=i2.lt
       replace hRES:=Hd (show RES=340 by
        rw[<-hRES.out];unfold Du;rw[if_neg];intro hh
        unfold Bv at hh
        simp only[Bool.and_eq_true,decide_eq_true_eq] at hh
        have:=hh.2.2.2.2.2.1
        rw[Qc hpre _ i4] at this
        cases this)
       clear i4
       gi_wp2
       have b9:=i2
       have hK9:=hK
       have hB9:Below w.heap.size w Wx:=Aa
       simp only[bodyPostM]
       refine⟨by simp,.inl ⟨_,_,rfl,run_takeDeferred hK9,?_⟩⟩
       have hc9:=cell_kept (by simpa using b9.cell 0) (grownBy_putObj' Wx D (.deferred none)) (fun r e=>by cases e;exact⟨_,hK9,rfl⟩)
       refine⟨.int .i64 340,by simp[results,Tryz.f14,go_sem,hc9],by rw[hRES.out],hB9.trans (belowK_b (w:=w) (Nat.le_refl _) Wx D _ _ (by omega) hK9 rfl rfl)⟩
theorem Gv (s:A3) (ps po:Option Addr) (cs co:Nat) (w:World) (hin:A9 w s ps po):
  Cb 14 #[.agg (Cd s ps cs po co)] w (.int .i64 (Du s)):=callsIn_wide.1 (check_in s ps po cs co w hin)
end Go.Proofs.YtidfcoooccblaaaGreat
namespace Go.Proofs.YtidfcoooccblaaaGreat
open Go.RowKit
theorem c_Sub (a b:Int) (w:World) (ha:A7 a) (hb:A7 b):
  Cb 158 #[Be a,Be b] w (.tuple #[Be (wv (inW (a-b)) (Bd (a-b))),.int .i64 (we (inW (a-b)))]):=by
 have c1:=fun w=>Hk a b w ha hb
 have c2:=fun f w=>Uz (Bd (a-b)) f w
 clear ha hb
 unfold Be at*
 generalize inW (a-b)=f at*
 go_enter Tryz.func158,Tryz.ntmps158
 go_wp2_with fail
 refine(c1 _).mono ?_
 rintro e w1 ⟨rfl,hb1⟩
 obtain⟨hc1,hf1⟩:=Ec hb1
 have hz1:=hb1.size
 simp at hz1
 go_wp2_with fail
 refine(c2 _ _).mono ?_
 rintro e w2 ⟨rfl,hb2⟩
 obtain⟨hc2,hf2⟩:=Ec hb2
 have hz2:=hb2.size
 clear c1 c2
 have z0:w.heap.size<w2.heap.size:=by omega
 have z1:w.heap.size+1<w2.heap.size:=by omega
 have z2:w.heap.size+1+1<w2.heap.size:=by omega
 have y0:w.heap.size<w1.heap.size:=by omega
 have y1:w.heap.size+1<w1.heap.size:=by omega
 have y2:w.heap.size+1+1<w1.heap.size:=by omega
 go_wp2
 refine bodyPost_ret (v:= .tuple #[.agg #[.int .i64 (hiW (wv f (Bd (a-b)))),.int .u64 (loW (wv f (Bd (a-b))))],.int .i64 (we f)]) (by simp[results,Tryz.results158,go_sem,hc1,hc2,y0,y1,y2]) rfl ⟨rfl,?_⟩
 have h0:Below w.heap.size w w1:=((((Below.refl _ _).alloc (Nat.le_refl _) _).alloc (by simp) _).alloc (by simp;omega) _).trans (hb1.mono (by simp;omega))
 exact(((h0.trans (hb2.mono (by omega))).setCell (by simp;omega) _).setCell (by simp;omega) _)
attribute [local simp] Oper.looksAt Op.operands Call.operands Al Det Ap
theorem mul_few {x:Int} (h0:0<=x) (h1:x<=1099511627776) (n:Nat) (hn:n<=1000):0<=x*(n:Int)/\x*(n:Int)<=1099511627776000:=by
 have a:=Int.mul_nonneg h0 (show (0:Int)<=n by omega)
 have b:=Int.mul_le_mul h1 (show (n:Int)<=1000 by omega) (by omega) (by omega)
 omega
section
variable {P:Program} {ops:Array Oper} {C:World->Prop} {X:List (Nat×Nat)} {a0:Act} {Fin:List (Option Tmp×Bg)->Prop} {i:Nat} {o:Oper} {rest:List Oper} {acc:List (Option Tmp×Bg)}
theorem Ue (Φ:Bg) (hcl:A8 (Bl X i) Φ) (hg:o.guard=none) (hal:A2 o=false)
  (h:∀(a:Act) (w:World),C w->(∀s∈o.looksAt ops,Al a0 acc s (a.tmps.getD s undef) w)->∃v w',(execOp a.eval o).run P w= .ok (.value v) w'/\Below w.heap.size w w'/\Φ v w')
  (hr:An P ops C X a0 Fin (i+1) rest ((o.dst,Φ)::acc)):An P ops C X a0 Fin i (o::rest) acc:=
 ⟨Φ,hcl,fun a w hC hE=>⟨fun _=>by
  obtain⟨v,w',h1,h2,h3⟩:=h a w hC hE
  rw[h1];exact⟨Rex.of_below h2,h3,fun e=>by rw[hal] at e;cases e⟩,fun e=>by rw[Dm hg] at e;cases e⟩,hr⟩
end
def SPV (l:List (Int×Int)):Bg:=fun v w=>∃k,v= .slice (some ⟨k,0,none⟩) 2 2/\A5 w (some ⟨k,0,none⟩) l
theorem SPV.closed (l:List (Int×Int)):A8 [] (SPV l):=fun _ _ _ hr ⟨k,e,h⟩=>⟨k,e,h.rex hr rfl⟩
theorem Wo (g:Nat) (n a b c d s1 s2 s3 s4 m p q t1 t2 far x1 x2 y1 y2 r1 r2 u1 u2 m1 m2 l1 l2 h1 h2 v1 v2 v3 v4 e1 e2 e3 e4:Int) (w:World) (hg:Blk w g #[.int .i64 n,.int .i64 a,.int .i64 b,.int .i64 c,.int .i64 d,.int .i64 s1,.int .u64 s2,.int .i64 s3,.int .u64 s4] 190) (hn:0<n) (hn2:n<=1000000) (hm:0<=m) (hm2:m<=1000000)
  (c1:∀W,Cb 156 #[.int .i64 p,.int .i64 far] W (.agg #[.int .i64 x1,.int .i64 x2]))
  (c2:∀W,Cb 156 #[.int .i64 q,.int .i64 far] W (.agg #[.int .i64 y1,.int .i64 y2]))
  (c3:∀W k,A5 W (some ⟨k,0,none⟩) [(a,b),(x1,x2)]->Cb 43 #[.slice (some ⟨k,0,none⟩) 2 2] W (.tuple #[.agg #[.int .i64 r1,.int .i64 r2],.int .i64 0]))
  (c4:∀W k,A5 W (some ⟨k,0,none⟩) [(c,d),(y1,y2)]->Cb 44 #[.slice (some ⟨k,0,none⟩) 2 2] W (.tuple #[.agg #[.int .i64 u1,.int .i64 u2],.int .i64 0]))
  (c5:∀W,Cb 157 #[.int .i64 far,.int .i64 m] W (.agg #[.int .i64 m1,.int .u64 m2]))
  (c6:∀W,Cb 158 #[.agg #[.int .i64 t1,.int .u64 t2],.agg #[.int .i64 m1,.int .u64 m2]] W (.tuple #[.agg #[.int .i64 l1,.int .u64 l2],.int .i64 e1]))
  (c7:∀W,Cb 16 #[.agg #[.int .i64 t1,.int .u64 t2],.agg #[.int .i64 m1,.int .u64 m2]] W (.tuple #[.agg #[.int .i64 h1,.int .u64 h2],.int .i64 e2]))
  (c8:∀W,Cb 16 #[.agg #[.int .i64 s1,.int .u64 s2],.agg #[.int .i64 l1,.int .u64 l2]] W (.tuple #[.agg #[.int .i64 v1,.int .u64 v2],.int .i64 e3]))
  (c9:∀W,Cb 16 #[.agg #[.int .i64 s3,.int .u64 s4],.agg #[.int .i64 h1,.int .u64 h2]] W (.tuple #[.agg #[.int .i64 v3,.int .u64 v4],.int .i64 e4])):
  Calls Tryz.prog 106 #[.pointer (some ⟨g,0,none⟩),.agg #[.int .i64 m,.int .i64 p,.int .i64 q,.int .i64 t1,.int .u64 t2,.int .i64 far]] w fun e w'=>e= .returned (.tuple #[])/\Rex [g] w w'/\Blk w' g #[.int .i64 (n+m),.int .i64 r1,.int .i64 r2,.int .i64 u1,.int .i64 u2,.int .i64 v1,.int .u64 v2,.int .i64 v3,.int .u64 v4] 190:=by
 have y0:=hg.lt
 have H_c1:=Hd c1
 clear c1
 have H_c2:=Hd c2
 clear c2
 have H_c3:=Hd c3
 clear c3
 have H_c4:=Hd c4
 clear c4
 have H_c5:=Hd c5
 clear c5
 have H_c6:=Hd c6
 clear c6
 have H_c7:=Hd c7
 clear c7
 have H_c8:=Hd c8
 clear c8
 have H_c9:=Hd c9
 clear c9
 go_enter Tryz.func106,Tryz.ntmps106
 go_upto_region 1 with(fail)
 refine B3 [g] w (Bc g #[.int .i64 n,.int .i64 a,.int .i64 b,.int .i64 c,.int .i64 d,.int .i64 s1,.int .u64 s2,.int .i64 s3,.int .u64 s4] 190<|Bc w.heap.size #[.int .i64 m,.int .i64 p,.int .i64 q,.int .i64 t1,.int .u64 t2,.int .i64 far] 198<|Bz) ?_
 rintro W1 hW z2 ⟨⟨b1,yb1,k1,f1⟩,⟨b2,yb2,k2,f2⟩,-⟩
 have c1:=H_c1.out
 have c2:=H_c2.out
 refine Gh 14 123 [] (fun W'=>Rex [] W1 W'/\Blk W' g #[.int .i64 n,.int .i64 a,.int .i64 b,.int .i64 c,.int .i64 d,.int .i64 s1,.int .u64 s2,.int .i64 s3,.int .u64 s4] 190/\Blk W' w.heap.size #[.int .i64 m,.int .i64 p,.int .i64 q,.int .i64 t1,.int .u64 t2,.int .i64 far] 198) Co (by kernel_rfl) rfl ⟨(Rex.refl _ _).drew,b1,b2⟩ (fun w w' ⟨h0,h1,h2⟩ hr=>⟨h0.trans hr,h1.rex hr (by simp<;>omega),h2.rex hr (by simp<;>omega)⟩) (fun c a d v w h=>by cases d<;>exact h) ?_
 iterate 5
  apply Aj (hg:=rfl) (hal:=rfl)
  ·intro a W' hC hE
   obtain⟨_,k1,k2⟩:=hC
   have k2:=k2.cell
   first
    |(simp at hE;simp[go_sem,Act.eval,iw,hE,k1,k2];try rfl)
    |(clear hE;simp[go_sem,Act.eval,iw,k1,k2];try rfl)
 refine Az rfl rfl (fun W' hC=>c1 W') (fun a W' hC hE=> ?_) ?_
 ·obtain⟨_,k1,k2⟩:=hC
  have k2:=k2.cell
  first
   |(simp at hE;simp[go_sem,Act.eval,iw,hE,k1,k2];try rfl)
   |(clear hE;simp[go_sem,Act.eval,iw,k1,k2];try rfl)
 iterate 5
  apply Aj (hg:=rfl) (hal:=rfl)
  ·intro a W' hC hE
   obtain⟨_,k1,k2⟩:=hC
   have k2:=k2.cell
   first
    |(simp at hE;simp[go_sem,Act.eval,iw,hE,k1,k2];try rfl)
    |(clear hE;simp[go_sem,Act.eval,iw,k1,k2];try rfl)
 refine Az rfl rfl (fun W' hC=>c2 W') (fun a W' hC hE=> ?_) ?_
 ·obtain⟨_,k1,k2⟩:=hC
  have k2:=k2.cell
  first
   |(simp at hE;simp[go_sem,Act.eval,iw,hE,k1,k2];try rfl)
   |(clear hE;simp[go_sem,Act.eval,iw,k1,k2];try rfl)
 apply Fc W1.heap.size #[.int .i64 0,.int .i64 0] 33 rfl rfl
 ·exact fun W' hC=>hC.1.size
 ·simp[Bl]<;>omega
 ·intro w;kernel_rfl
 apply Fc W1.heap.size #[.int .i64 0,.int .i64 0] 33 rfl rfl
 ·exact fun W' hC=>hC.1.size
 ·simp[Bl]<;>omega
 ·intro w;kernel_rfl
 rintro W3 ⟨hR,d1,d2⟩
 simp only[Av,Det,forall_eq]
 intros
 repeat (rename Ap _ _ _ _=>hgd;clear hgd)
 simp only[nS]
 clear b1 b2 H_c1 H_c2 c1 c2
 have b1:=d1
 have b2:=d2
 clear d1 d2
 replace hW:=hW.trans (hR.more (by simp))
 clear hR
 rename Ho _ _=>hap
 rename F0 _ _ _ _ _=>hn5
 obtain⟨o5,rfl,hg5,b4⟩:=hn5
 rename F0 _ _ _ _ _=>hn4
 obtain⟨o4,rfl,hg4,b3⟩:=hn4
 have hne:o4≠o5:=fun e=>hap 4 5 (by simp[Ey,A2]) (by simp[Ey,A2]) (by decide) ⟨o4,0,none⟩ (by simp[Act.put]) (by simp[Act.put,e])
 clear hap
 have z9:=hW.size
 have z10:=b1.lt
 have z11:=b2.lt
 have z12:=b3.lt
 have z13:=b4.lt
 clear k1 f1 k2 f2
 have k1:=b1.cell
 have f1:=b1.frozen
 have k2:=b2.cell
 have f2:=b2.frozen
 have k3:=b3.cell
 have f3:=b3.frozen
 have k4:=b4.cell
 have f4:=b4.frozen
 go_upto_region 3 with(fail)
 clear k1 f1 k2 f2 k3 f3 k4 f4
 refine B3 [g] w (Bc g #[.int .i64 n,.int .i64 a,.int .i64 b,.int .i64 c,.int .i64 d,.int .i64 s1,.int .u64 s2,.int .i64 s3,.int .u64 s4] 190<|Bc w.heap.size #[.int .i64 m,.int .i64 p,.int .i64 q,.int .i64 t1,.int .u64 t2,.int .i64 far] 198<|Bc o4 #[.int .i64 x1,.int .i64 x2] 33<|Bc o5 #[.int .i64 y1,.int .i64 y2] 33<|Bz) ?_
 clear b1 b2 b3 b4 hW
 rintro W31 hW z32 ⟨⟨b1,yb1,k1,f1⟩,⟨b2,yb2,k2,f2⟩,⟨b3,yb3,k3,f3⟩,⟨b4,yb4,k4,f4⟩,-⟩
 have c3:=H_c3.out
 refine Am 11 123 [] (fun W'=>Rex [] W31 W'/\Blk W' g #[.int .i64 n,.int .i64 a,.int .i64 b,.int .i64 c,.int .i64 d,.int .i64 s1,.int .u64 s2,.int .i64 s3,.int .u64 s4] 190/\Blk W' w.heap.size #[.int .i64 m,.int .i64 p,.int .i64 q,.int .i64 t1,.int .u64 t2,.int .i64 far] 198/\Blk W' o4 #[.int .i64 x1,.int .i64 x2] 33/\Blk W' o5 #[.int .i64 y1,.int .i64 y2] 33) Co (by kernel_rfl) rfl ⟨(Rex.refl _ _).drew,b1,b2,b3,b4⟩ (fun w w' ⟨h0,h1,h2,h3,h4⟩ hr=>⟨h0.trans hr,h1.rex hr (by simp<;>omega),h2.rex hr (by simp<;>omega),h3.rex hr (by simp<;>omega),h4.rex hr (by simp<;>omega)⟩) (fun c a d v w h=>by cases d<;>exact h) ?_
 iterate 6
  apply Aj (hg:=rfl) (hal:=rfl)
  ·intro a W' hC hE
   obtain⟨_,k1,k2,k3,k4⟩:=hC
   have k1:=k1.cell
   have k3:=k3.cell
   have k4:=k4.cell
   first
    |(simp at hE;simp[go_sem,Act.eval,iw,hE,k1,k2,k3,k4];try rfl)
    |(clear hE;simp[go_sem,Act.eval,iw,k1,k2,k3,k4];try rfl)
 apply Ue (SPV [(a,b),(x1,x2)]) (hg:=rfl) (hal:=rfl)
 ·exact SPV.closed _
 ·intro a' W' hC hE
  simp at hE
  refine⟨_,W'.alloc (.cells #[.int .i64 a,.int .i64 b,.int .i64 x1,.int .i64 x2] 33),?_,(Below.refl _ _).alloc (Nat.le_refl _) _,W'.heap.size,rfl,Kn (n:=4) (Blk.new' rfl) rfl⟩
  simp[go_sem,execOp,Act.eval,hE]
  try rfl
  done
 apply Jc (.tuple #[.agg #[.int .i64 r1,.int .i64 r2],.int .i64 0]) (hg:=rfl) (hal:=rfl)
 ·intro a' W' hC hE
  simp at hE
  obtain⟨k,hk,hp⟩:=hE
  exact⟨_,_,by simp[go_sem,Act.eval,hk],c3 W' k hp⟩
 iterate 3
  apply Aj (hg:=rfl) (hal:=rfl)
  ·intro a W' hC hE
   obtain⟨_,k1,k2,k3,k4⟩:=hC
   have k1:=k1.cell
   have k3:=k3.cell
   have k4:=k4.cell
   first
    |(simp at hE;simp[go_sem,Act.eval,iw,hE,k1,k2,k3,k4];try rfl)
    |(clear hE;simp[go_sem,Act.eval,iw,k1,k2,k3,k4];try rfl)
 rintro W33 ⟨hR,d1,d2,d3,d4⟩
 simp only[Av,Det,forall_eq]
 intros
 repeat (rename Ap _ _ _ _=>hgd;clear hgd)
 simp only[nS]
 clear b1 b2 b3 b4
 have b1:=d1
 have b2:=d2
 have b3:=d3
 have b4:=d4
 clear d1 d2 d3 d4
 replace hW:=hW.trans (hR.more (by simp))
 clear hR
 repeat (rename SPV _ _ _=>hsp;clear hsp)
 clear c3
 have z34:=hW.size
 have z35:=b1.lt
 have z36:=b2.lt
 have z37:=b3.lt
 have z38:=b4.lt
 clear k1 f1 k2 f2 k3 f3 k4 f4
 have k1:=b1.cell
 have f1:=b1.frozen
 have k2:=b2.cell
 have f2:=b2.frozen
 have k3:=b3.cell
 have f3:=b3.frozen
 have k4:=b4.cell
 have f4:=b4.frozen
 go_upto_region 4 with(fail)
 clear k1 f1 k2 f2 k3 f3 k4 f4
 refine B3 [g] w (Bc g #[.int .i64 n,.int .i64 a,.int .i64 b,.int .i64 c,.int .i64 d,.int .i64 s1,.int .u64 s2,.int .i64 s3,.int .u64 s4] 190<|Bc w.heap.size #[.int .i64 m,.int .i64 p,.int .i64 q,.int .i64 t1,.int .u64 t2,.int .i64 far] 198<|Bc o4 #[.int .i64 r1,.int .i64 r2] 33<|Bc o5 #[.int .i64 y1,.int .i64 y2] 33<|Bz) ?_
 clear b1 b2 b3 b4 hW
 rintro W39 hW z40 ⟨⟨b1,yb1,k1,f1⟩,⟨b2,yb2,k2,f2⟩,⟨b3,yb3,k3,f3⟩,⟨b4,yb4,k4,f4⟩,-⟩
 have c4:=H_c4.out
 refine Am 11 123 [] (fun W'=>Rex [] W39 W'/\Blk W' g #[.int .i64 n,.int .i64 a,.int .i64 b,.int .i64 c,.int .i64 d,.int .i64 s1,.int .u64 s2,.int .i64 s3,.int .u64 s4] 190/\Blk W' w.heap.size #[.int .i64 m,.int .i64 p,.int .i64 q,.int .i64 t1,.int .u64 t2,.int .i64 far] 198/\Blk W' o4 #[.int .i64 r1,.int .i64 r2] 33/\Blk W' o5 #[.int .i64 y1,.int .i64 y2] 33) Co (by kernel_rfl) rfl ⟨(Rex.refl _ _).drew,b1,b2,b3,b4⟩ (fun w w' ⟨h0,h1,h2,h3,h4⟩ hr=>⟨h0.trans hr,h1.rex hr (by simp<;>omega),h2.rex hr (by simp<;>omega),h3.rex hr (by simp<;>omega),h4.rex hr (by simp<;>omega)⟩) (fun c a d v w h=>by cases d<;>exact h) ?_
 iterate 6
  apply Aj (hg:=rfl) (hal:=rfl)
  ·intro a W' hC hE
   obtain⟨_,k1,k2,k3,k4⟩:=hC
   have k1:=k1.cell
   have k3:=k3.cell
   have k4:=k4.cell
   first
    |(simp at hE;simp[go_sem,Act.eval,iw,hE,k1,k2,k3,k4];try rfl)
    |(clear hE;simp[go_sem,Act.eval,iw,k1,k2,k3,k4];try rfl)
 apply Ue (SPV [(c,d),(y1,y2)]) (hg:=rfl) (hal:=rfl)
 ·exact SPV.closed _
 ·intro a' W' hC hE
  simp at hE
  refine⟨_,W'.alloc (.cells #[.int .i64 c,.int .i64 d,.int .i64 y1,.int .i64 y2] 33),?_,(Below.refl _ _).alloc (Nat.le_refl _) _,W'.heap.size,rfl,Kn (n:=4) (Blk.new' rfl) rfl⟩
  simp[go_sem,execOp,Act.eval,hE]
  try rfl
  done
 apply Jc (.tuple #[.agg #[.int .i64 u1,.int .i64 u2],.int .i64 0]) (hg:=rfl) (hal:=rfl)
 ·intro a' W' hC hE
  simp at hE
  obtain⟨k,hk,hp⟩:=hE
  exact⟨_,_,by simp[go_sem,Act.eval,hk],c4 W' k hp⟩
 iterate 3
  apply Aj (hg:=rfl) (hal:=rfl)
  ·intro a W' hC hE
   obtain⟨_,k1,k2,k3,k4⟩:=hC
   have k1:=k1.cell
   have k3:=k3.cell
   have k4:=k4.cell
   first
    |(simp at hE;simp[go_sem,Act.eval,iw,hE,k1,k2,k3,k4];try rfl)
    |(clear hE;simp[go_sem,Act.eval,iw,k1,k2,k3,k4];try rfl)
 rintro W41 ⟨hR,d1,d2,d3,d4⟩
 simp only[Av,Det,forall_eq]
 intros
 repeat (rename Ap _ _ _ _=>hgd;clear hgd)
 simp only[nS]
 clear b1 b2 b3 b4
 have b1:=d1
 have b2:=d2
 have b3:=d3
 have b4:=d4
 clear d1 d2 d3 d4
 replace hW:=hW.trans (hR.more (by simp))
 clear hR
 repeat (rename SPV _ _ _=>hsp;clear hsp)
 clear c4
 have z42:=hW.size
 have z43:=b1.lt
 have z44:=b2.lt
 have z45:=b3.lt
 have z46:=b4.lt
 clear k1 f1 k2 f2 k3 f3 k4 f4
 have k1:=b1.cell
 have f1:=b1.frozen
 have k2:=b2.cell
 have f2:=b2.frozen
 have k3:=b3.cell
 have f3:=b3.frozen
 have k4:=b4.cell
 have f4:=b4.frozen
 go_upto_region 5 with(fail)
 clear k1 f1 k2 f2 k3 f3 k4 f4
 refine B3 [g] w (Bc g #[.int .i64 n,.int .i64 a,.int .i64 b,.int .i64 c,.int .i64 d,.int .i64 s1,.int .u64 s2,.int .i64 s3,.int .u64 s4] 190<|Bc w.heap.size #[.int .i64 m,.int .i64 p,.int .i64 q,.int .i64 t1,.int .u64 t2,.int .i64 far] 198<|Bc o4 #[.int .i64 r1,.int .i64 r2] 33<|Bc o5 #[.int .i64 u1,.int .i64 u2] 33<|Bz) ?_
 clear b1 b2 b3 b4 hW
 rintro W47 hW z48 ⟨⟨b1,yb1,k1,f1⟩,⟨b2,yb2,k2,f2⟩,⟨b3,yb3,k3,f3⟩,⟨b4,yb4,k4,f4⟩,-⟩
 go_region
 simp only[Exit.then]
 go_upto_region 6 with(fail)
 clear k1 f1 k2 f2 k3 f3 k4 f4
 refine B3 [g] w (Bc g #[.int .i64 n,.int .i64 r1,.int .i64 r2,.int .i64 u1,.int .i64 u2,.int .i64 s1,.int .u64 s2,.int .i64 s3,.int .u64 s4] 190<|Bc w.heap.size #[.int .i64 m,.int .i64 p,.int .i64 q,.int .i64 t1,.int .u64 t2,.int .i64 far] 198<|Bc o4 #[.int .i64 r1,.int .i64 r2] 33<|Bc o5 #[.int .i64 u1,.int .i64 u2] 33<|Bz) ?_ (hI:=by exact Rex.drew Eu) (hR:=(Bc.mk (by exact Blk.drew Ab)<|Bc.mk (by exact Blk.drew Ab)<|Bc.mk (by exact Blk.drew Ab)<|Bc.mk (by exact Blk.drew Ab)<|trivial))
 clear b1 b2 b3 b4 hW
 rintro W49 hW z50 ⟨⟨b1,yb1,k1,f1⟩,⟨b2,yb2,k2,f2⟩,⟨b3,yb3,k3,f3⟩,⟨b4,yb4,k4,f4⟩,-⟩
 go_region
 simp only[Exit.then]
 go_upto_region 7 with(fail)
 clear k1 f1 k2 f2 k3 f3 k4 f4
 refine B3 [g] w (Bc g #[.int .i64 (n+m),.int .i64 r1,.int .i64 r2,.int .i64 u1,.int .i64 u2,.int .i64 s1,.int .u64 s2,.int .i64 s3,.int .u64 s4] 190<|Bc w.heap.size #[.int .i64 m,.int .i64 p,.int .i64 q,.int .i64 t1,.int .u64 t2,.int .i64 far] 198<|Bz) ?_ (hI:=by exact Rex.drew Eu) (hR:=(Bc.mk (by exact Blk.drew Ab)<|Bc.mk (by exact Blk.drew Ab)<|trivial))
 clear b1 b2 hW
 rintro W51 hW z52 ⟨⟨b1,yb1,k1,f1⟩,⟨b2,yb2,k2,f2⟩,-⟩
 go_wp2_with fail
 refine(H_c5.out _).mono ?_
 rintro e w53 ⟨rfl,hb53⟩
 have z54:=hb53.size
 try simp at z54
 clear k1 f1 k2 f2
 refine Jg [g] w w53 (Bc g #[.int .i64 (n+m),.int .i64 r1,.int .i64 r2,.int .i64 u1,.int .i64 u2,.int .i64 s1,.int .u64 s2,.int .i64 s3,.int .u64 s4] 190<|Bc w.heap.size #[.int .i64 m,.int .i64 p,.int .i64 q,.int .i64 t1,.int .u64 t2,.int .i64 far] 198<|Bz) ?_
 clear b1 b2 hW
 rintro hW z55 ⟨⟨b1,yb1,k1,f1⟩,⟨b2,yb2,k2,f2⟩,-⟩
 clear hb53
 go_wp2_with fail
 refine(H_c6.out _).mono ?_
 rintro e w56 ⟨rfl,hb56⟩
 have z57:=hb56.size
 try simp at z57
 clear k1 f1 k2 f2
 refine Jg [g] w w56 (Bc g #[.int .i64 (n+m),.int .i64 r1,.int .i64 r2,.int .i64 u1,.int .i64 u2,.int .i64 s1,.int .u64 s2,.int .i64 s3,.int .u64 s4] 190<|Bc w.heap.size #[.int .i64 m,.int .i64 p,.int .i64 q,.int .i64 t1,.int .u64 t2,.int .i64 far] 198<|Bc w53.heap.size #[.int .i64 m1,.int .u64 m2] 36<|Bz) ?_
 clear b1 b2 hW
 rintro hW z58 ⟨⟨b1,yb1,k1,f1⟩,⟨b2,yb2,k2,f2⟩,⟨b3,yb3,k3,f3⟩,-⟩
 clear hb56
 go_wp2_with fail
 refine(H_c7.out _).mono ?_
 rintro e w59 ⟨rfl,hb59⟩
 have z60:=hb59.size
 try simp at z60
 clear k1 f1 k2 f2 k3 f3
 refine Jg [g] w w59 (Bc g #[.int .i64 (n+m),.int .i64 r1,.int .i64 r2,.int .i64 u1,.int .i64 u2,.int .i64 s1,.int .u64 s2,.int .i64 s3,.int .u64 s4] 190<|Bc w.heap.size #[.int .i64 m,.int .i64 p,.int .i64 q,.int .i64 t1,.int .u64 t2,.int .i64 far] 198<|Bc w53.heap.size #[.int .i64 m1,.int .u64 m2] 36<|Bc w56.heap.size #[.int .i64 l1,.int .u64 l2] 36<|Bz) ?_
 clear b1 b2 b3 hW
 rintro hW z61 ⟨⟨b1,yb1,k1,f1⟩,⟨b2,yb2,k2,f2⟩,⟨b3,yb3,k3,f3⟩,⟨b4,yb4,k4,f4⟩,-⟩
 clear hb59
 go_upto_region 10 with(fail)
 clear k1 f1 k2 f2 k3 f3 k4 f4
 refine B3 [g] w (Bc g #[.int .i64 (n+m),.int .i64 r1,.int .i64 r2,.int .i64 u1,.int .i64 u2,.int .i64 s1,.int .u64 s2,.int .i64 s3,.int .u64 s4] 190<|Bc w.heap.size #[.int .i64 m,.int .i64 p,.int .i64 q,.int .i64 t1,.int .u64 t2,.int .i64 far] 198<|Bc w53.heap.size #[.int .i64 m1,.int .u64 m2] 36<|Bc w56.heap.size #[.int .i64 l1,.int .u64 l2] 36<|Bc w59.heap.size #[.int .i64 h1,.int .u64 h2] 36<|Bz) ?_
 clear b1 b2 b3 b4 hW
 rintro W62 hW z63 ⟨⟨b1,yb1,k1,f1⟩,⟨b2,yb2,k2,f2⟩,⟨b3,yb3,k3,f3⟩,⟨b4,yb4,k4,f4⟩,⟨b5,yb5,k5,f5⟩,-⟩
 go_upto_region 10 with(fail)
 clear k1 f1 k2 f2 k3 f3 k4 f4 k5 f5
 refine B3 [g] w (Bc g #[.int .i64 (n+m),.int .i64 r1,.int .i64 r2,.int .i64 u1,.int .i64 u2,.int .i64 s1,.int .u64 s2,.int .i64 s3,.int .u64 s4] 190<|Bc w.heap.size #[.int .i64 m,.int .i64 p,.int .i64 q,.int .i64 t1,.int .u64 t2,.int .i64 far] 198<|Bc w53.heap.size #[.int .i64 m1,.int .u64 m2] 36<|Bc w56.heap.size #[.int .i64 l1,.int .u64 l2] 36<|Bc w59.heap.size #[.int .i64 h1,.int .u64 h2] 36<|Bz) ?_
 clear b1 b2 b3 b4 b5 hW
 rintro W64 hW z65 ⟨⟨b1,yb1,k1,f1⟩,⟨b2,yb2,k2,f2⟩,⟨b3,yb3,k3,f3⟩,⟨b4,yb4,k4,f4⟩,⟨b5,yb5,k5,f5⟩,-⟩
 clear k1 f1 k2 f2 k3 f3 k4 f4 k5 f5
 have c8:=H_c8.out
 refine Am 11 123 [] (fun W'=>Rex [] W64 W'/\Blk W' g #[.int .i64 (n+m),.int .i64 r1,.int .i64 r2,.int .i64 u1,.int .i64 u2,.int .i64 s1,.int .u64 s2,.int .i64 s3,.int .u64 s4] 190/\Blk W' w.heap.size #[.int .i64 m,.int .i64 p,.int .i64 q,.int .i64 t1,.int .u64 t2,.int .i64 far] 198/\Blk W' w53.heap.size #[.int .i64 m1,.int .u64 m2] 36/\Blk W' w56.heap.size #[.int .i64 l1,.int .u64 l2] 36/\Blk W' w59.heap.size #[.int .i64 h1,.int .u64 h2] 36) Co (by kernel_rfl) rfl ⟨(Rex.refl _ _).drew,b1,b2,b3,b4,b5⟩ (fun w w' ⟨h0,h1,h2,h3,h4,h5⟩ hr=>⟨h0.trans hr,h1.rex hr (by simp<;>omega),h2.rex hr (by simp<;>omega),h3.rex hr (by simp<;>omega),h4.rex hr (by simp<;>omega),h5.rex hr (by simp<;>omega)⟩) (fun c a d v w h=>by cases d<;>exact h) ?_
 iterate 7
  apply Aj (hg:=rfl) (hal:=rfl)
  ·intro a W' hC hE
   obtain⟨_,k1,k2,k3,k4,k5⟩:=hC
   have k1:=k1.cell
   have k4:=k4.cell
   first
    |(simp at hE;simp[go_sem,Act.eval,iw,hE,k1,k2,k3,k4,k5];try rfl)
    |(clear hE;simp[go_sem,Act.eval,iw,k1,k2,k3,k4,k5];try rfl)
 refine Az rfl rfl (fun W' hC=>c8 W') (fun a W' hC hE=> ?_) ?_
 ·obtain⟨_,k1,k2,k3,k4,k5⟩:=hC
  have k1:=k1.cell
  have k4:=k4.cell
  first
   |(simp at hE;simp[go_sem,Act.eval,iw,hE,k1,k2,k3,k4,k5];try rfl)
   |(clear hE;simp[go_sem,Act.eval,iw,k1,k2,k3,k4,k5];try rfl)
 iterate 3
  apply Aj (hg:=rfl) (hal:=rfl)
  ·intro a W' hC hE
   obtain⟨_,k1,k2,k3,k4,k5⟩:=hC
   have k1:=k1.cell
   have k4:=k4.cell
   first
    |(simp at hE;simp[go_sem,Act.eval,iw,hE,k1,k2,k3,k4,k5];try rfl)
    |(clear hE;simp[go_sem,Act.eval,iw,k1,k2,k3,k4,k5];try rfl)
 rintro W66 ⟨hR,d1,d2,d3,d4,d5⟩
 simp only[Av,Det,forall_eq]
 intros
 repeat (rename Ap _ _ _ _=>hgd;clear hgd)
 simp only[nS]
 replace hW:=hW.trans (hR.more (by simp))
 clear hR
 clear c8
 try clear b1 b2 b3 b4 b5
 have b1:=d1
 clear d1
 have b2:=d2
 clear d2
 have b3:=d3
 clear d3
 have b4:=d4
 clear d4
 have b5:=d5
 clear d5
 have k1:=b1.cell
 have f1:=b1.frozen
 have k2:=b2.cell
 have f2:=b2.frozen
 have k3:=b3.cell
 have f3:=b3.frozen
 have k4:=b4.cell
 have f4:=b4.frozen
 have k5:=b5.cell
 have f5:=b5.frozen
 go_upto_region 11 with(fail)
 clear k1 f1 k2 f2 k3 f3 k4 f4 k5 f5
 refine B3 [g] w (Bc g #[.int .i64 (n+m),.int .i64 r1,.int .i64 r2,.int .i64 u1,.int .i64 u2,.int .i64 v1,.int .u64 v2,.int .i64 s3,.int .u64 s4] 190<|Bc w.heap.size #[.int .i64 m,.int .i64 p,.int .i64 q,.int .i64 t1,.int .u64 t2,.int .i64 far] 198<|Bc w53.heap.size #[.int .i64 m1,.int .u64 m2] 36<|Bc w56.heap.size #[.int .i64 l1,.int .u64 l2] 36<|Bc w59.heap.size #[.int .i64 h1,.int .u64 h2] 36<|Bz) ?_
 clear b1 b2 b3 b4 b5 hW
 rintro W67 hW z68 ⟨⟨b1,yb1,k1,f1⟩,⟨b2,yb2,k2,f2⟩,⟨b3,yb3,k3,f3⟩,⟨b4,yb4,k4,f4⟩,⟨b5,yb5,k5,f5⟩,-⟩
 clear k1 f1 k2 f2 k3 f3 k4 f4 k5 f5
 have c9:=H_c9.out
 refine Am 11 123 [] (fun W'=>Rex [] W67 W'/\Blk W' g #[.int .i64 (n+m),.int .i64 r1,.int .i64 r2,.int .i64 u1,.int .i64 u2,.int .i64 v1,.int .u64 v2,.int .i64 s3,.int .u64 s4] 190/\Blk W' w.heap.size #[.int .i64 m,.int .i64 p,.int .i64 q,.int .i64 t1,.int .u64 t2,.int .i64 far] 198/\Blk W' w53.heap.size #[.int .i64 m1,.int .u64 m2] 36/\Blk W' w56.heap.size #[.int .i64 l1,.int .u64 l2] 36/\Blk W' w59.heap.size #[.int .i64 h1,.int .u64 h2] 36) Co (by kernel_rfl) rfl ⟨(Rex.refl _ _).drew,b1,b2,b3,b4,b5⟩ (fun w w' ⟨h0,h1,h2,h3,h4,h5⟩ hr=>⟨h0.trans hr,h1.rex hr (by simp<;>omega),h2.rex hr (by simp<;>omega),h3.rex hr (by simp<;>omega),h4.rex hr (by simp<;>omega),h5.rex hr (by simp<;>omega)⟩) (fun c a d v w h=>by cases d<;>exact h) ?_
 iterate 7
  apply Aj (hg:=rfl) (hal:=rfl)
  ·intro a W' hC hE
   obtain⟨_,k1,k2,k3,k4,k5⟩:=hC
   have k1:=k1.cell
   have k5:=k5.cell
   first
    |(simp at hE;simp[go_sem,Act.eval,iw,hE,k1,k2,k3,k4,k5];try rfl)
    |(clear hE;simp[go_sem,Act.eval,iw,k1,k2,k3,k4,k5];try rfl)
 refine Az rfl rfl (fun W' hC=>c9 W') (fun a W' hC hE=> ?_) ?_
 ·obtain⟨_,k1,k2,k3,k4,k5⟩:=hC
  have k1:=k1.cell
  have k5:=k5.cell
  first
   |(simp at hE;simp[go_sem,Act.eval,iw,hE,k1,k2,k3,k4,k5];try rfl)
   |(clear hE;simp[go_sem,Act.eval,iw,k1,k2,k3,k4,k5];try rfl)
 iterate 3
  apply Aj (hg:=rfl) (hal:=rfl)
  ·intro a W' hC hE
   obtain⟨_,k1,k2,k3,k4,k5⟩:=hC
   have k1:=k1.cell
   have k5:=k5.cell
   first
    |(simp at hE;simp[go_sem,Act.eval,iw,hE,k1,k2,k3,k4,k5];try rfl)
    |(clear hE;simp[go_sem,Act.eval,iw,k1,k2,k3,k4,k5];try rfl)
 rintro W69 ⟨hR,d1,d2,d3,d4,d5⟩
 simp only[Av,Det,forall_eq]
 intros
 repeat (rename Ap _ _ _ _=>hgd;clear hgd)
 simp only[nS]
 replace hW:=hW.trans (hR.more (by simp))
 clear hR
 clear c9
 try clear b1 b2 b3 b4 b5
 have b1:=d1
 clear d1
 have b2:=d2
 clear d2
 have b3:=d3
 clear d3
 have b4:=d4
 clear d4
 have b5:=d5
 clear d5
 have k1:=b1.cell
 have f1:=b1.frozen
 have k2:=b2.cell
 have f2:=b2.frozen
 have k3:=b3.cell
 have f3:=b3.frozen
 have k4:=b4.cell
 have f4:=b4.frozen
 have k5:=b5.cell
 have f5:=b5.frozen
 go_wp2
 refine bodyPost_end (results_none rfl _ _ _) rfl ⟨rfl,Eu,Ab⟩
theorem Ty (g:Nat) (m p q t1 t2 far x1 x2 y1 y2 m1 m2 l1 l2 h1 h2 v1 v2 v3 v4 e1 e2 e3 e4:Int) (w:World) (hg:Blk w g #[.int .i64 0,.int .i64 0,.int .i64 0,.int .i64 0,.int .i64 0,.int .i64 0,.int .u64 0,.int .i64 0,.int .u64 0] 190) (hm:0<=m) (hm2:m<=1000000)
  (c1:∀W,Cb 156 #[.int .i64 p,.int .i64 far] W (.agg #[.int .i64 x1,.int .i64 x2]))
  (c2:∀W,Cb 156 #[.int .i64 q,.int .i64 far] W (.agg #[.int .i64 y1,.int .i64 y2]))
  (c5:∀W,Cb 157 #[.int .i64 far,.int .i64 m] W (.agg #[.int .i64 m1,.int .u64 m2]))
  (c6:∀W,Cb 158 #[.agg #[.int .i64 t1,.int .u64 t2],.agg #[.int .i64 m1,.int .u64 m2]] W (.tuple #[.agg #[.int .i64 l1,.int .u64 l2],.int .i64 e1]))
  (c7:∀W,Cb 16 #[.agg #[.int .i64 t1,.int .u64 t2],.agg #[.int .i64 m1,.int .u64 m2]] W (.tuple #[.agg #[.int .i64 h1,.int .u64 h2],.int .i64 e2]))
  (c8:∀W,Cb 16 #[.agg #[.int .i64 0,.int .u64 0],.agg #[.int .i64 l1,.int .u64 l2]] W (.tuple #[.agg #[.int .i64 v1,.int .u64 v2],.int .i64 e3]))
  (c9:∀W,Cb 16 #[.agg #[.int .i64 0,.int .u64 0],.agg #[.int .i64 h1,.int .u64 h2]] W (.tuple #[.agg #[.int .i64 v3,.int .u64 v4],.int .i64 e4])):
  Calls Tryz.prog 106 #[.pointer (some ⟨g,0,none⟩),.agg #[.int .i64 m,.int .i64 p,.int .i64 q,.int .i64 t1,.int .u64 t2,.int .i64 far]] w fun e w'=>e= .returned (.tuple #[])/\Rex [g] w w'/\Blk w' g #[.int .i64 m,.int .i64 x1,.int .i64 x2,.int .i64 y1,.int .i64 y2,.int .i64 v1,.int .u64 v2,.int .i64 v3,.int .u64 v4] 190:=by
 have y0:=hg.lt
 have H_c1:=Hd c1
 clear c1
 have H_c2:=Hd c2
 clear c2
 have H_c5:=Hd c5
 clear c5
 have H_c6:=Hd c6
 clear c6
 have H_c7:=Hd c7
 clear c7
 have H_c8:=Hd c8
 clear c8
 have H_c9:=Hd c9
 clear c9
 go_enter Tryz.func106,Tryz.ntmps106
 go_upto_region 1 with(fail)
 refine B3 [g] w (Bc g #[.int .i64 0,.int .i64 0,.int .i64 0,.int .i64 0,.int .i64 0,.int .i64 0,.int .u64 0,.int .i64 0,.int .u64 0] 190<|Bc w.heap.size #[.int .i64 m,.int .i64 p,.int .i64 q,.int .i64 t1,.int .u64 t2,.int .i64 far] 198<|Bz) ?_
 rintro W1 hW z2 ⟨⟨b1,yb1,k1,f1⟩,⟨b2,yb2,k2,f2⟩,-⟩
 have c1:=H_c1.out
 have c2:=H_c2.out
 refine Gh 14 123 [] (fun W'=>Rex [] W1 W'/\Blk W' g #[.int .i64 0,.int .i64 0,.int .i64 0,.int .i64 0,.int .i64 0,.int .i64 0,.int .u64 0,.int .i64 0,.int .u64 0] 190/\Blk W' w.heap.size #[.int .i64 m,.int .i64 p,.int .i64 q,.int .i64 t1,.int .u64 t2,.int .i64 far] 198) Co (by kernel_rfl) rfl ⟨(Rex.refl _ _).drew,b1,b2⟩ (fun w w' ⟨h0,h1,h2⟩ hr=>⟨h0.trans hr,h1.rex hr (by simp<;>omega),h2.rex hr (by simp<;>omega)⟩) (fun c a d v w h=>by cases d<;>exact h) ?_
 iterate 5
  apply Aj (hg:=rfl) (hal:=rfl)
  ·intro a W' hC hE
   obtain⟨_,k1,k2⟩:=hC
   have k2:=k2.cell
   first
    |(simp at hE;simp[go_sem,Act.eval,iw,hE,k1,k2];try rfl)
    |(clear hE;simp[go_sem,Act.eval,iw,k1,k2];try rfl)
 refine Az rfl rfl (fun W' hC=>c1 W') (fun a W' hC hE=> ?_) ?_
 ·obtain⟨_,k1,k2⟩:=hC
  have k2:=k2.cell
  first
   |(simp at hE;simp[go_sem,Act.eval,iw,hE,k1,k2];try rfl)
   |(clear hE;simp[go_sem,Act.eval,iw,k1,k2];try rfl)
 iterate 5
  apply Aj (hg:=rfl) (hal:=rfl)
  ·intro a W' hC hE
   obtain⟨_,k1,k2⟩:=hC
   have k2:=k2.cell
   first
    |(simp at hE;simp[go_sem,Act.eval,iw,hE,k1,k2];try rfl)
    |(clear hE;simp[go_sem,Act.eval,iw,k1,k2];try rfl)
 refine Az rfl rfl (fun W' hC=>c2 W') (fun a W' hC hE=> ?_) ?_
 ·obtain⟨_,k1,k2⟩:=hC
  have k2:=k2.cell
  first
   |(simp at hE;simp[go_sem,Act.eval,iw,hE,k1,k2];try rfl)
   |(clear hE;simp[go_sem,Act.eval,iw,k1,k2];try rfl)
 apply Fc W1.heap.size #[.int .i64 0,.int .i64 0] 33 rfl rfl
 ·exact fun W' hC=>hC.1.size
 ·simp[Bl]<;>omega
 ·intro w;kernel_rfl
 apply Fc W1.heap.size #[.int .i64 0,.int .i64 0] 33 rfl rfl
 ·exact fun W' hC=>hC.1.size
 ·simp[Bl]<;>omega
 ·intro w;kernel_rfl
 rintro W3 ⟨hR,d1,d2⟩
 simp only[Av,Det,forall_eq]
 intros
 repeat (rename Ap _ _ _ _=>hgd;clear hgd)
 simp only[nS]
 clear b1 b2 H_c1 H_c2 c1 c2
 have b1:=d1
 have b2:=d2
 clear d1 d2
 replace hW:=hW.trans (hR.more (by simp))
 clear hR
 rename Ho _ _=>hap
 rename F0 _ _ _ _ _=>hn5
 obtain⟨o5,rfl,hg5,b4⟩:=hn5
 rename F0 _ _ _ _ _=>hn4
 obtain⟨o4,rfl,hg4,b3⟩:=hn4
 have hne:o4≠o5:=fun e=>hap 4 5 (by simp[Ey,A2]) (by simp[Ey,A2]) (by decide) ⟨o4,0,none⟩ (by simp[Act.put]) (by simp[Act.put,e])
 clear hap
 have z9:=hW.size
 have z10:=b1.lt
 have z11:=b2.lt
 have z12:=b3.lt
 have z13:=b4.lt
 clear k1 f1 k2 f2
 have k1:=b1.cell
 have f1:=b1.frozen
 have k2:=b2.cell
 have f2:=b2.frozen
 have k3:=b3.cell
 have f3:=b3.frozen
 have k4:=b4.cell
 have f4:=b4.frozen
 go_upto_region 5 with(fail)
 clear k1 f1 k2 f2 k3 f3 k4 f4
 refine B3 [g] w (Bc g #[.int .i64 0,.int .i64 0,.int .i64 0,.int .i64 0,.int .i64 0,.int .i64 0,.int .u64 0,.int .i64 0,.int .u64 0] 190<|Bc w.heap.size #[.int .i64 m,.int .i64 p,.int .i64 q,.int .i64 t1,.int .u64 t2,.int .i64 far] 198<|Bc o4 #[.int .i64 x1,.int .i64 x2] 33<|Bc o5 #[.int .i64 y1,.int .i64 y2] 33<|Bz) ?_
 clear b1 b2 b3 b4 hW
 rintro W31 hW z32 ⟨⟨b1,yb1,k1,f1⟩,⟨b2,yb2,k2,f2⟩,⟨b3,yb3,k3,f3⟩,⟨b4,yb4,k4,f4⟩,-⟩
 go_region
 simp only[Exit.then]
 go_upto_region 6 with(fail)
 clear k1 f1 k2 f2 k3 f3 k4 f4
 refine B3 [g] w (Bc g #[.int .i64 0,.int .i64 x1,.int .i64 x2,.int .i64 y1,.int .i64 y2,.int .i64 0,.int .u64 0,.int .i64 0,.int .u64 0] 190<|Bc w.heap.size #[.int .i64 m,.int .i64 p,.int .i64 q,.int .i64 t1,.int .u64 t2,.int .i64 far] 198<|Bc o4 #[.int .i64 x1,.int .i64 x2] 33<|Bc o5 #[.int .i64 y1,.int .i64 y2] 33<|Bz) ?_ (hI:=by exact Rex.drew Eu) (hR:=(Bc.mk (by exact Blk.drew Ab)<|Bc.mk (by exact Blk.drew Ab)<|Bc.mk (by exact Blk.drew Ab)<|Bc.mk (by exact Blk.drew Ab)<|trivial))
 clear b1 b2 b3 b4 hW
 rintro W33 hW z34 ⟨⟨b1,yb1,k1,f1⟩,⟨b2,yb2,k2,f2⟩,⟨b3,yb3,k3,f3⟩,⟨b4,yb4,k4,f4⟩,-⟩
 go_region
 simp only[Exit.then]
 go_upto_region 7 with(fail)
 clear k1 f1 k2 f2 k3 f3 k4 f4
 refine B3 [g] w (Bc g #[.int .i64 m,.int .i64 x1,.int .i64 x2,.int .i64 y1,.int .i64 y2,.int .i64 0,.int .u64 0,.int .i64 0,.int .u64 0] 190<|Bc w.heap.size #[.int .i64 m,.int .i64 p,.int .i64 q,.int .i64 t1,.int .u64 t2,.int .i64 far] 198<|Bz) ?_ (hI:=by exact Rex.drew Eu) (hR:=(Bc.mk (by exact Blk.drew Ab)<|Bc.mk (by exact Blk.drew Ab)<|trivial))
 clear b1 b2 hW
 rintro W35 hW z36 ⟨⟨b1,yb1,k1,f1⟩,⟨b2,yb2,k2,f2⟩,-⟩
 go_wp2_with fail
 refine(H_c5.out _).mono ?_
 rintro e w37 ⟨rfl,hb37⟩
 have z38:=hb37.size
 try simp at z38
 clear k1 f1 k2 f2
 refine Jg [g] w w37 (Bc g #[.int .i64 m,.int .i64 x1,.int .i64 x2,.int .i64 y1,.int .i64 y2,.int .i64 0,.int .u64 0,.int .i64 0,.int .u64 0] 190<|Bc w.heap.size #[.int .i64 m,.int .i64 p,.int .i64 q,.int .i64 t1,.int .u64 t2,.int .i64 far] 198<|Bz) ?_
 clear b1 b2 hW
 rintro hW z39 ⟨⟨b1,yb1,k1,f1⟩,⟨b2,yb2,k2,f2⟩,-⟩
 clear hb37
 go_wp2_with fail
 refine(H_c6.out _).mono ?_
 rintro e w40 ⟨rfl,hb40⟩
 have z41:=hb40.size
 try simp at z41
 clear k1 f1 k2 f2
 refine Jg [g] w w40 (Bc g #[.int .i64 m,.int .i64 x1,.int .i64 x2,.int .i64 y1,.int .i64 y2,.int .i64 0,.int .u64 0,.int .i64 0,.int .u64 0] 190<|Bc w.heap.size #[.int .i64 m,.int .i64 p,.int .i64 q,.int .i64 t1,.int .u64 t2,.int .i64 far] 198<|Bc w37.heap.size #[.int .i64 m1,.int .u64 m2] 36<|Bz) ?_
 clear b1 b2 hW
 rintro hW z42 ⟨⟨b1,yb1,k1,f1⟩,⟨b2,yb2,k2,f2⟩,⟨b3,yb3,k3,f3⟩,-⟩
 clear hb40
 go_wp2_with fail
 refine(H_c7.out _).mono ?_
 rintro e w43 ⟨rfl,hb43⟩
 have z44:=hb43.size
 try simp at z44
 clear k1 f1 k2 f2 k3 f3
 refine Jg [g] w w43 (Bc g #[.int .i64 m,.int .i64 x1,.int .i64 x2,.int .i64 y1,.int .i64 y2,.int .i64 0,.int .u64 0,.int .i64 0,.int .u64 0] 190<|Bc w.heap.size #[.int .i64 m,.int .i64 p,.int .i64 q,.int .i64 t1,.int .u64 t2,.int .i64 far] 198<|Bc w37.heap.size #[.int .i64 m1,.int .u64 m2] 36<|Bc w40.heap.size #[.int .i64 l1,.int .u64 l2] 36<|Bz) ?_
 clear b1 b2 b3 hW
 rintro hW z45 ⟨⟨b1,yb1,k1,f1⟩,⟨b2,yb2,k2,f2⟩,⟨b3,yb3,k3,f3⟩,⟨b4,yb4,k4,f4⟩,-⟩
 clear hb43
 go_upto_region 10 with(fail)
 clear k1 f1 k2 f2 k3 f3 k4 f4
 refine B3 [g] w (Bc g #[.int .i64 m,.int .i64 x1,.int .i64 x2,.int .i64 y1,.int .i64 y2,.int .i64 0,.int .u64 0,.int .i64 0,.int .u64 0] 190<|Bc w.heap.size #[.int .i64 m,.int .i64 p,.int .i64 q,.int .i64 t1,.int .u64 t2,.int .i64 far] 198<|Bc w37.heap.size #[.int .i64 m1,.int .u64 m2] 36<|Bc w40.heap.size #[.int .i64 l1,.int .u64 l2] 36<|Bc w43.heap.size #[.int .i64 h1,.int .u64 h2] 36<|Bz) ?_
 clear b1 b2 b3 b4 hW
 rintro W46 hW z47 ⟨⟨b1,yb1,k1,f1⟩,⟨b2,yb2,k2,f2⟩,⟨b3,yb3,k3,f3⟩,⟨b4,yb4,k4,f4⟩,⟨b5,yb5,k5,f5⟩,-⟩
 go_upto_region 10 with(fail)
 clear k1 f1 k2 f2 k3 f3 k4 f4 k5 f5
 refine B3 [g] w (Bc g #[.int .i64 m,.int .i64 x1,.int .i64 x2,.int .i64 y1,.int .i64 y2,.int .i64 0,.int .u64 0,.int .i64 0,.int .u64 0] 190<|Bc w.heap.size #[.int .i64 m,.int .i64 p,.int .i64 q,.int .i64 t1,.int .u64 t2,.int .i64 far] 198<|Bc w37.heap.size #[.int .i64 m1,.int .u64 m2] 36<|Bc w40.heap.size #[.int .i64 l1,.int .u64 l2] 36<|Bc w43.heap.size #[.int .i64 h1,.int .u64 h2] 36<|Bz) ?_
 clear b1 b2 b3 b4 b5 hW
 rintro W48 hW z49 ⟨⟨b1,yb1,k1,f1⟩,⟨b2,yb2,k2,f2⟩,⟨b3,yb3,k3,f3⟩,⟨b4,yb4,k4,f4⟩,⟨b5,yb5,k5,f5⟩,-⟩
 clear k1 f1 k2 f2 k3 f3 k4 f4 k5 f5
 have c8:=H_c8.out
 refine Am 11 123 [] (fun W'=>Rex [] W48 W'/\Blk W' g #[.int .i64 m,.int .i64 x1,.int .i64 x2,.int .i64 y1,.int .i64 y2,.int .i64 0,.int .u64 0,.int .i64 0,.int .u64 0] 190/\Blk W' w.heap.size #[.int .i64 m,.int .i64 p,.int .i64 q,.int .i64 t1,.int .u64 t2,.int .i64 far] 198/\Blk W' w37.heap.size #[.int .i64 m1,.int .u64 m2] 36/\Blk W' w40.heap.size #[.int .i64 l1,.int .u64 l2] 36/\Blk W' w43.heap.size #[.int .i64 h1,.int .u64 h2] 36) Co (by kernel_rfl) rfl ⟨(Rex.refl _ _).drew,b1,b2,b3,b4,b5⟩ (fun w w' ⟨h0,h1,h2,h3,h4,h5⟩ hr=>⟨h0.trans hr,h1.rex hr (by simp<;>omega),h2.rex hr (by simp<;>omega),h3.rex hr (by simp<;>omega),h4.rex hr (by simp<;>omega),h5.rex hr (by simp<;>omega)⟩) (fun c a d v w h=>by cases d<;>exact h) ?_
 iterate 7
  apply Aj (hg:=rfl) (hal:=rfl)
  ·intro a W' hC hE
   obtain⟨_,k1,k2,k3,k4,k5⟩:=hC
   have k1:=k1.cell
   have k4:=k4.cell
   first
    |(simp at hE;simp[go_sem,Act.eval,iw,hE,k1,k2,k3,k4,k5];try rfl)
    |(clear hE;simp[go_sem,Act.eval,iw,k1,k2,k3,k4,k5];try rfl)
 refine Az rfl rfl (fun W' hC=>c8 W') (fun a W' hC hE=> ?_) ?_
 ·obtain⟨_,k1,k2,k3,k4,k5⟩:=hC
  have k1:=k1.cell
  have k4:=k4.cell
  first
   |(simp at hE;simp[go_sem,Act.eval,iw,hE,k1,k2,k3,k4,k5];try rfl)
   |(clear hE;simp[go_sem,Act.eval,iw,k1,k2,k3,k4,k5];try rfl)
 iterate 3
  apply Aj (hg:=rfl) (hal:=rfl)
  ·intro a W' hC hE
   obtain⟨_,k1,k2,k3,k4,k5⟩:=hC
   have k1:=k1.cell
   have k4:=k4.cell
   first
    |(simp at hE;simp[go_sem,Act.eval,iw,hE,k1,k2,k3,k4,k5];try rfl)
    |(clear hE;simp[go_sem,Act.eval,iw,k1,k2,k3,k4,k5];try rfl)
 rintro W50 ⟨hR,d1,d2,d3,d4,d5⟩
 simp only[Av,Det,forall_eq]
 intros
 repeat (rename Ap _ _ _ _=>hgd;clear hgd)
 simp only[nS]
 replace hW:=hW.trans (hR.more (by simp))
 clear hR
 clear c8
 try clear b1 b2 b3 b4 b5
 have b1:=d1
 clear d1
 have b2:=d2
 clear d2
 have b3:=d3
 clear d3
 have b4:=d4
 clear d4
 have b5:=d5
 clear d5
 have k1:=b1.cell
 have f1:=b1.frozen
 have k2:=b2.cell
 have f2:=b2.frozen
 have k3:=b3.cell
 have f3:=b3.frozen
 have k4:=b4.cell
 have f4:=b4.frozen
 have k5:=b5.cell
 have f5:=b5.frozen
 go_upto_region 11 with(fail)
 clear k1 f1 k2 f2 k3 f3 k4 f4 k5 f5
 refine B3 [g] w (Bc g #[.int .i64 m,.int .i64 x1,.int .i64 x2,.int .i64 y1,.int .i64 y2,.int .i64 v1,.int .u64 v2,.int .i64 0,.int .u64 0] 190<|Bc w.heap.size #[.int .i64 m,.int .i64 p,.int .i64 q,.int .i64 t1,.int .u64 t2,.int .i64 far] 198<|Bc w37.heap.size #[.int .i64 m1,.int .u64 m2] 36<|Bc w40.heap.size #[.int .i64 l1,.int .u64 l2] 36<|Bc w43.heap.size #[.int .i64 h1,.int .u64 h2] 36<|Bz) ?_
 clear b1 b2 b3 b4 b5 hW
 rintro W51 hW z52 ⟨⟨b1,yb1,k1,f1⟩,⟨b2,yb2,k2,f2⟩,⟨b3,yb3,k3,f3⟩,⟨b4,yb4,k4,f4⟩,⟨b5,yb5,k5,f5⟩,-⟩
 clear k1 f1 k2 f2 k3 f3 k4 f4 k5 f5
 have c9:=H_c9.out
 refine Am 11 123 [] (fun W'=>Rex [] W51 W'/\Blk W' g #[.int .i64 m,.int .i64 x1,.int .i64 x2,.int .i64 y1,.int .i64 y2,.int .i64 v1,.int .u64 v2,.int .i64 0,.int .u64 0] 190/\Blk W' w.heap.size #[.int .i64 m,.int .i64 p,.int .i64 q,.int .i64 t1,.int .u64 t2,.int .i64 far] 198/\Blk W' w37.heap.size #[.int .i64 m1,.int .u64 m2] 36/\Blk W' w40.heap.size #[.int .i64 l1,.int .u64 l2] 36/\Blk W' w43.heap.size #[.int .i64 h1,.int .u64 h2] 36) Co (by kernel_rfl) rfl ⟨(Rex.refl _ _).drew,b1,b2,b3,b4,b5⟩ (fun w w' ⟨h0,h1,h2,h3,h4,h5⟩ hr=>⟨h0.trans hr,h1.rex hr (by simp<;>omega),h2.rex hr (by simp<;>omega),h3.rex hr (by simp<;>omega),h4.rex hr (by simp<;>omega),h5.rex hr (by simp<;>omega)⟩) (fun c a d v w h=>by cases d<;>exact h) ?_
 iterate 7
  apply Aj (hg:=rfl) (hal:=rfl)
  ·intro a W' hC hE
   obtain⟨_,k1,k2,k3,k4,k5⟩:=hC
   have k1:=k1.cell
   have k5:=k5.cell
   first
    |(simp at hE;simp[go_sem,Act.eval,iw,hE,k1,k2,k3,k4,k5];try rfl)
    |(clear hE;simp[go_sem,Act.eval,iw,k1,k2,k3,k4,k5];try rfl)
 refine Az rfl rfl (fun W' hC=>c9 W') (fun a W' hC hE=> ?_) ?_
 ·obtain⟨_,k1,k2,k3,k4,k5⟩:=hC
  have k1:=k1.cell
  have k5:=k5.cell
  first
   |(simp at hE;simp[go_sem,Act.eval,iw,hE,k1,k2,k3,k4,k5];try rfl)
   |(clear hE;simp[go_sem,Act.eval,iw,k1,k2,k3,k4,k5];try rfl)
 iterate 3
  apply Aj (hg:=rfl) (hal:=rfl)
  ·intro a W' hC hE
   obtain⟨_,k1,k2,k3,k4,k5⟩:=hC
   have k1:=k1.cell
   have k5:=k5.cell
   first
    |(simp at hE;simp[go_sem,Act.eval,iw,hE,k1,k2,k3,k4,k5];try rfl)
    |(clear hE;simp[go_sem,Act.eval,iw,k1,k2,k3,k4,k5];try rfl)
 rintro W53 ⟨hR,d1,d2,d3,d4,d5⟩
 simp only[Av,Det,forall_eq]
 intros
 repeat (rename Ap _ _ _ _=>hgd;clear hgd)
 simp only[nS]
 replace hW:=hW.trans (hR.more (by simp))
 clear hR
 clear c9
 try clear b1 b2 b3 b4 b5
 have b1:=d1
 clear d1
 have b2:=d2
 clear d2
 have b3:=d3
 clear d3
 have b4:=d4
 clear d4
 have b5:=d5
 clear d5
 have k1:=b1.cell
 have f1:=b1.frozen
 have k2:=b2.cell
 have f2:=b2.frozen
 have k3:=b3.cell
 have f3:=b3.frozen
 have k4:=b4.cell
 have f4:=b4.frozen
 have k5:=b5.cell
 have f5:=b5.frozen
 go_wp2
 refine bodyPost_end (results_none rfl _ _ _) rfl ⟨rfl,Eu,Ab⟩
def pcA (vs:List Int) (far:Int):Array Value:= #[.int .i64 vs.length,.int .i64 (Aw vs),.int .i64 (Ay vs),.int .i64 (hiW (Ak vs)),.int .u64 (loW (Ak vs)),.int .i64 far]
theorem Z4 (x y:Int):mn x y=min x y:=by have:=F7 x y;omega
theorem Z3 (x y:Int):mx x y=max x y:=by have:=Ha x y;omega
theorem c_SubOk (a b:Int) (w:World) (ha:A7 a) (hb:A7 b) (h:A7 (a-b)):
  Cb 158 #[Be a,Be b] w (.tuple #[Be (a-b),.int .i64 0]):=by
 have:=c_Sub a b w ha hb
 rw[Hg h,Cx h] at this
 exact this
theorem Rg (a b:Int) (w:World) (ha:A7 a) (hb:A7 b) (h:A7 (a+b)):
  Cb 16 #[Be a,Be b] w (.tuple #[Be (a+b),.int .i64 0]):=by
 have:=Pw a b w ha hb
 rw[Hg h,Cx h] at this
 exact this
theorem c_take (g:Nat) (l:List (Int×Int)) (vs:List Int) (far:Int) (w:World) (hg:Blk w g (shA l) 190) (hvs:vs≠ []) (h0:0<=far) (h1:far<=1099511627776) (hb:∀v,v∈vs-> -2305844108725321728<=v/\v<=2305844108725321728) (hn:vs.length<=1000)
  (hl:∀x,x∈l-> -2305844108725321728<=x.1/\x.1<=2305844108725321728/\0<=x.2/\x.2<=1099511627776) (hll:l.length<=100000):
  Calls Tryz.prog 106 #[.pointer (some ⟨g,0,none⟩),.agg (pcA vs far)] w fun e w'=>e= .returned (.tuple #[])/\Rex [g] w w'/\Blk w' g (shA (l++pairs (vs,far))) 190:=by
 obtain⟨p1,p2⟩:=C8 hvs
 obtain⟨q1,q2⟩:=C9 hvs
 have hp:=hb _ p1
 have hq:=hb _ q1
 have hs:=F8 hb
 have hm:=mul_few h0 h1 vs.length hn
 have hls:=F8 (l:=loL l) (B:=2305847407260205056) (fun v hv=>by
  unfold loL at hv
  obtain⟨x,hx,rfl⟩:=List.mem_map.1 hv
  have:=hl x hx
  omega)
 have hhs:=F8 (l:=hiL l) (B:=2305847407260205056) (fun v hv=>by
  unfold hiL at hv
  obtain⟨x,hx,rfl⟩:=List.mem_map.1 hv
  have:=hl x hx
  omega)
 have el:(loL l).length=l.length:=by unfold loL;simp
 have eh:(hiL l).length=l.length:=by unfold hiL;simp
 rw[el] at hls
 rw[eh] at hhs
 have c1:=fun W=>Ol (Aw vs) far W h0 h1 (by omega) (by omega)
 have c2:=fun W=>Ol (Ay vs) far W h0 h1 (by omega) (by omega)
 have c5:=fun W=>Wd far vs.length W ⟨by omega,by omega⟩ ⟨by omega,by omega⟩
 obtain⟨M,hM⟩:∃M,far*(vs.length:Int)=M:=⟨_,rfl⟩
 obtain⟨T,hT⟩:∃T,Ak vs=T:=⟨_,rfl⟩
 have c6:=fun W=>c_SubOk T M W (by unfold A7;omega) (by unfold A7;omega) (by unfold A7;omega)
 have c7:=fun W=>Rg T M W (by unfold A7;omega) (by unfold A7;omega) (by unfold A7;omega)
 have c8:=fun W=>Rg (Ak (loL l)) (T-M) W (by unfold A7;omega) (by unfold A7;omega) (by unfold A7;omega)
 have c9:=fun W=>Rg (Ak (hiL l)) (T+M) W (by unfold A7;omega) (by unfold A7;omega) (by unfold A7;omega)
 rw[hM] at c5
 unfold pcA
 rw[hT]
 by_cases hne:l= []
 ·subst hne
  rw[Ws far hvs,hM,hT,Int.zero_add]
  exact Ty g _ _ _ _ _ far _ _ _ _ _ _ _ _ _ _ _ _ _ _ _ _ _ _ w hg (by omega) (by omega) c1 c2 c5 c6 c7 c8 c9
 ·rw[Zh far hne hvs,hM,hT]
  obtain⟨a1,a2⟩:=C8 (Je hne)
  obtain⟨b1,b2⟩:=C8 (Jf hne)
  obtain⟨d1,d2⟩:=C9 (Je hne)
  obtain⟨e1,e2⟩:=C9 (Jf hne)
  have hab:Aw (loL l)<=Aw (hiL l):=by
   unfold hiL at b1
   obtain⟨x,hx,he⟩:=List.mem_map.1 b1
   have:=a2 _ (List.mem_map_of_mem (f:=fun x:Int×Int=>x.1-x.2) hx)
   have:=hl x hx
   unfold hiL
   omega
  have hcd:Ay (loL l)<=Ay (hiL l):=by
   unfold loL at d1
   obtain⟨x,hx,he⟩:=List.mem_map.1 d1
   have:=e2 _ (List.mem_map_of_mem (f:=fun x:Int×Int=>x.1+x.2) hx)
   have:=hl x hx
   unfold loL
   omega
  have c3:=fun W k (hk:A5 W (some ⟨k,0,none⟩) [(Aw (loL l),Aw (hiL l)),(Aw vs-far,Aw vs+far)])=>X8 (some ⟨k,0,none⟩) 2 _ W (by simp) (by simp) hk (by simp;omega)
  have c4:=fun W k (hk:A5 W (some ⟨k,0,none⟩) [(Ay (loL l),Ay (hiL l)),(Ay vs-far,Ay vs+far)])=>c_spMost (some ⟨k,0,none⟩) 2 _ W (by simp) (by simp) hk (by simp;omega)
  have key:=Wo g l.length (Aw (loL l)) (Aw (hiL l)) (Ay (loL l)) (Ay (hiL l)) _ _ _ _ _ _ _ _ _ far _ _ _ _ _ _ _ _ _ _ _ _ _ _ _ _ _ _ _ _ _ _ w hg (by have:=List.length_pos_iff.2 hne;omega) (by omega) (by omega) (by omega) c1 c2 c3 c4 c5 c6 c7 c8 c9
  rw[<-Z4,<-Z4,<-Z3,<-Z3]
  exact key
end Go.Proofs.YtidfcoooccblaaaGreat
namespace Go.Proofs.YtidfcoooccblaaaGreat
open Go.RowKit Go.Shelf
attribute [local go_sem] Oper.semAt_some
def SeqWr {α:Type} (F:Fence) (n:Nat) (P:Program) (g:Nat) (lb:Array Value) (encs:α->Array Value) (Kp:World->World->Prop) (xs:List α) (Ba:Nat) (w:World):Prop:=
 ∀(l:Nat) (J:List α->World->Prop) (W:World),Below w.heap.size w W->AbidesFrom W.heap.size J->(∀pre W1 v,J pre W1->J pre (W1.setCell ⟨Ba,0,none⟩ v))->
  (∀pre x W1,J pre W1->pre++ [x]<+:xs->YieldAt F (n-1) P l (encs x) W1 fun e W'=>e= .returned (.bool true)/\J (pre++ [x]) W'/\Kp W1 W')->
  J [] W->CallsIn F n P g (#[.func (.yield l) #[] #[]]++lb) W fun e W'=>(∃v,e= .returned v)/\J xs W'
def goesOn {α:Type} (B:Nat) (Kp:World->World->Prop) (I:List α->World->Prop) (pre:List α) (W:World):Exit->Act->World->Prop
 | .normal,_,W'=>KeepsFrom B W W'/\Kp W W'/\I pre W'
 |_,_,_=>False
theorem Qd {α:Type} {F:Fence} {P:Program} {n:Nat} {g:Operand} {ps:Array Tmp} {assign body:Code} {Q:Exit->Act->World->Prop} {a:Act} {w:World} (hro:F.round=none) (h1:1<=n) {gf:Nat} {lb:Array Value}
  (hg:a.eval g= .func (.func gf) #[] lb) (hFg:F.fn gf) (eg:∀args w,(callFunc gf args).run P w= .ok (.enter gf args) w) {encs:α->Array Value} {Kp:World->World->Prop} {xs:List α} {Ba:Nat} (hBa:Ba<w.heap.size)
  (hseq:SeqWr F (n-1) P gf lb encs Kp xs Ba w) (hKt:∀ {A B C:World},Kp A B->Kp B C->Kp A C)
  (hKb:∀(W:World) (l:Nat) (o o':Obj),w.heap.size<=l->W.heap[l]? =some o->o.isCells=false->o.isWalk=false->Kp W (W.putObj l o')) (hps:∀x,(encs x).size=ps.size)
  (I:List α->World->Prop) (hI:OwnFrom w.heap.size I) (hIw:∀pre W v,I pre W->I pre (W.setCell ⟨Ba,0,none⟩ v)) (h0:I [] w) (Ax:α->Act->World->Prop) (hAx:∀x a',OwnFrom w.heap.size (fun(_:Unit) W=>Ax x a' W))
  (hassign:∀(l:Nat) (pre:List α) (x:α) (W:World) (K:Act->World->Prop),I pre W->(∀a' W',KeepsFrom w.heap.size W W'->Kp W W'->I pre W'->Ax x a' W'->K a' W')->
   assign.wpIn (F.inRound l) (n-1-1) P (Exit.then K (fun _ _ _=>False)) {tmps:=(ps.zip (encs x)).foldl (fun t (p,v)=>t.setIfInBounds p v) a.tmps,defers:= []} W)
  (hbody:∀(l:Nat) (pre:List α) (x:α) (a':Act) (W:World),I pre W->Ax x a' W->pre++ [x]<+:xs->body.wpIn (F.inRound l) (n-1-1) P (goesOn w.heap.size Kp I (pre++ [x]) W) a' W)
  (hdone:∀(D:Nat) (W:World),w.heap.size<=D->I xs W->W.heap[D]? =some (.deferred (some []))->Q .normal {a with defers:= {target:= .collected D,args:= #[]}::a.defers} W):
  (Code.rangeFunc g ps assign body).wpIn F n P Q a w:=by
 refine wpIn_rangeFunc fun fn hfn=> ?_
 rw[hro]
 let rec0:LoopState->Option Code->Loop:=fun st pe=> {state:=st,pending:=pe,fn,tmps:=a.tmps,params:=ps,assign,body,defers:=w.heap.size}
 obtain⟨rc,hrc⟩:∃r,r=rec0:=⟨_,rfl⟩
 let D:=w.heap.size
 obtain⟨W1,e1⟩:∃W1,W1=(w.alloc (.deferred (some []))).alloc (.loop (rc .ready none)):=⟨_,rfl⟩
 have hD:W1.heap[D]? =some (.deferred (some [])):=by rw[e1];exact(Below.heap_alloc _ _ _ (by simp[D])).trans (World.alloc_heap_new w _)
 have hL:W1.heap[D+1]? =some (.loop (rc .ready none)):=by
  rw[e1];have:=World.alloc_heap_new (w.alloc (.deferred (some []))) (.loop (rc .ready none));rwa [World.size_alloc] at this
 have hB:Below w.heap.size w W1:=by rw[e1];exact((Below.refl _ w).alloc (Nat.le_refl _) _).alloc (by simp) _
 refine⟨D+1,[{target:= .collected D,args:= #[]}],W1,{target:= .fn (.func gf) lb,args:= #[.func (.yield (D+1)) #[] #[]]},W1,gf,#[.func (.yield (D+1)) #[] #[]]++lb,W1,?_,?_,?_,?_,fun _=>h1,?_⟩
 ·rw[e1,hrc];exact run_enterLoop_outer _ _ _ _ _
 ·simp only[resolve,hg]
  simp[go_sem]
 ·intro f' hf'
  simp[Target.leads] at hf'
  exact hf'▸hFg
 ·simp[invoke,go_sem,eg]
 ·have hsz:W1.heap.size=D+1+1:=by rw[e1];simp[D]
  refine(hseq (D+1) (fun pre W=>I pre W/\W.heap[D+1]? =some (.loop (rc .ready none))/\W.heap[D]? =some (.deferred (some []))) W1 hB ?_ ?_ ?_ ⟨by rw[e1];exact hI.alloc _ (hI.alloc _ h0),hL,hD⟩).mono ?_
  ·--what the iterator makes,and turns of its own
   intro pre A C row hs hgr hr
   refine⟨hI pre A C row hs.1 hgr fun r e=> ?_,(grownBy_keeps hgr (fun r e=>(hr r e).2) hs.2.1 rfl).trans hs.2.1,(grownBy_keeps hgr (fun r e=>(hr r e).2) hs.2.2 rfl).trans hs.2.2⟩
   obtain⟨k1,o,k2,k3⟩:=hr r e
   exact⟨by simp only[D] at hsz;omega,o,k2,Obj.not_cells_of_walk k3⟩
  ·--the variable of its own
   intro pre A v hs
   exact⟨hIw pre A v hs.1,(heap_setCell_other A ⟨Ba,0,none⟩ (D+1) v (by simp only[D];omega)).trans hs.2.1,(heap_setCell_other A ⟨Ba,0,none⟩ D v (by simp only[D];omega)).trans hs.2.2⟩
  ·--one round
   rintro pre x W ⟨hi,hl,hd⟩ hlen
   have hy:=run_yield (P:=P) (args:=encs x) hl (by rw[hrc];exact hps x)
   rw[hrc] at hy
   refine⟨fn,_,assign,body,hy,roundIn_of_wpIn hfn (hassign _ pre x W _ hi fun a' V hkf hkp hiV hax=> ?_)⟩
   have hlV:V.heap[D+1]? =some (.loop (rc .ready none)):=hkf.same _ _ (by simp only[D];omega) hl rfl
   have hdV:V.heap[D]? =some (.deferred (some [])):=hkf.same _ _ (Nat.le_refl _) hd rfl
   have hlt:=Cf hlV
   refine⟨_,run_beginRound hlV (by rw[hrc]),?_⟩
   obtain⟨V2,e2⟩:∃V2,V2=V.putObj (D+1) (.loop {rc .ready none with state:= .busy}):=⟨_,rfl⟩
   rw[<-e2]
   have hl2:V2.heap[D+1]? =some (.loop {rc .ready none with state:= .busy}):=by rw[e2];exact World.putObj_heap_same hlt
   have hd2:V2.heap[D]? =some (.deferred (some [])):=by rw[e2];exact(World.putObj_heap_other (by omega)).trans hdV
   have hk2:Kp V V2:=by rw[e2];exact hKb _ _ _ _ (by simp only[D];omega) hlV rfl rfl
   refine wpIn_mono (hbody _ pre x a' V2 (by rw[e2];exact hI.putObj _ hiV (by simp only[D];omega) hlV rfl) (by rw[e2];exact(hAx x a').putObj (s:=()) _ hax (by simp only[D];omega) hlV rfl) hlen) ?_
   intro e a3 W3 hp
   cases e with
   |normal=>
    obtain⟨q1,q2,q3⟩:=hp
    have hl3:=q1.same _ _ (by simp only[D];omega) hl2 rfl
    have hd3:=q1.same _ _ (Nat.le_refl _) hd2 rfl
    have hr:=run_endRound (P:=P) none hl3
    refine⟨_,_,hr,rfl,⟨hI.putObj _ q3 (by simp only[D];omega) hl3 rfl,?_,(World.putObj_heap_other (by omega)).trans hd3⟩,hKt hkp (hKt (hKt hk2 q2) (hKb _ _ _ _ (by simp only[D];omega) hl3 rfl rfl))⟩
    have:=World.putObj_heap_same (w:=W3) (r:=D+1) (o:= .loop {rc .ready none with state:= .ready,pending:=none}) (Cf hl3)
    rw[hrc] at this⊢
    exact this
   |ret=>exact hp.elim
   |exit id=>exact hp.elim
   |goto t=>exact hp.elim
   |panic c=>exact hp.elim
   |outgrown=>exact hp.elim
  ·--behind the iterator
   rintro e W2 ⟨⟨v,rfl⟩,hi,hl,hd⟩
   refine⟨none,_,by have:=run_endLoop (P:=P) hl (by rw[hrc];simp[rec0]);rw[hrc] at this;exact this,hdone D _ (Nat.le_refl _) (hI.putObj _ hi (by simp only[D];omega) hl rfl) ((World.putObj_heap_other (by omega)).trans hd)⟩
end Go.Proofs.YtidfcoooccblaaaGreat
