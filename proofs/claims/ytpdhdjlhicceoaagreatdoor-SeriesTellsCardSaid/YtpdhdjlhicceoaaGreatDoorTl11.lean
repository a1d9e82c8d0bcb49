/- Parts of the proof that follows. No condition. -/
import Derived.Test.YtpdhdjlhicceoaaGreatDoorTl10
set_option maxRecDepth 100000
set_option maxHeartbeats 8000000
set_option linter.unusedSimpArgs false
set_option linter.unusedVariables false
namespace Go.Proofs.YtpdhdjlhicceoaaGreatDoor
open Go.RowKit
theorem Tryz.infoI64 :(Tryz.prog.info? 2).map (fun i=>(i.zero,i.size,i.bytes))=some (some (.int .i64 0),1,8):=by kernel_rfl
def tiRel (w:World) (p:Option Addr) (l:List RunT) (cap:Nat) (a':Act) (W:World):Prop:=
 Below w.heap.size w W/\∃(i:Nat) (T:List Int) (v:Value),(∃u:Nat->Value,a'= {tmps:= #[.slice p l.length cap,u 1,.slice none 0 0,v,.int .i64 (i:Int),u 5,u 6,u 7,u 8,u 9,u 10,u 11,u 12,u 13,u 14,u 15,u 16,u 17,u 18,u 19,u 20,u 21,u 22,u 23,u 24,u 25,u 26,u 27,u 28,u 29,u 30,u 31,u 32,u 33,u 34,u 35,u 36,u 37,u 38,u 39,u 40,u 41,u 42,u 43,u 44,u 45,u 46,u 47,u 48,u 49,u 50,u 51,u 52,u 53,u 54,u 55,u 56,u 57,u 58,u 59,u 60,u 61,u 62,u 63,u 64,u 65,u 66,u 67,u 68,u 69],defers:= []})/\
  OwnR W w.heap.size 2 1 v T.length (T.map (Value.int .i64))/\T=timesL (l.take i)/\i<=l.length/\(∀r,r∈l.take i->fitR r=true)/\cnt (l.take i)<=256
def tjRel (w:World) (p:Option Addr) (l:List RunT) (cap i:Nat) (T:List Int) (r:RunT) (g:Nat) (a':Act) (W:World):Prop:=
 Below w.heap.size w W/\Blk W g #[.int .i64 r.f,.int .i64 r.s,.int .i64 r.c] 69/\∃(k:Nat) (T1:List Int) (v:Value),(∃u:Nat->Value,a'= {tmps:= #[.slice p l.length cap,u 1,.slice none 0 0,v,.int .i64 (i:Int),.pointer (some ⟨g,0,none⟩),.int .i64 (k:Int),u 7,u 8,u 9,u 10,u 11,u 12,u 13,u 14,u 15,u 16,u 17,u 18,u 19,u 20,u 21,u 22,u 23,u 24,u 25,u 26,u 27,u 28,u 29,u 30,u 31,u 32,u 33,u 34,u 35,u 36,u 37,u 38,u 39,u 40,u 41,u 42,u 43,u 44,u 45,u 46,u 47,u 48,u 49,u 50,u 51,u 52,u 53,u 54,u 55,u 56,u 57,u 58,u 59,u 60,u 61,u 62,u 63,u 64,u 65,u 66,u 67,u 68,u 69],defers:= []})/\
  OwnR W w.heap.size 2 1 v T1.length (T1.map (Value.int .i64))/\T1=T++(List.range k).map (fun(j:Nat)=>r.f+r.s*(j:Int))/\(k:Int)<=r.c
theorem cnt_takeLe :∀(l:List RunT) (k:Nat),(∀r,r∈l->1<=r.c)->cnt (l.take k)<=cnt l
 | [],k,_=>by simp
 |r::l,0,h=>by
  have:=cnt_ge (r::l) h
  simp[cnt] at this⊢
  have:cnt ([]:List RunT)=0:=rfl
  omega
 |r::l,k+1,h=>by
  have:=cnt_takeLe l k fun q hq=>h q (by simp[hq])
  simp only[List.take_succ_cons,cnt]
  omega
theorem reftimes_w (p:Option Addr) (cap:Nat) (l:List RunT) (w:World) (h:RunsIn w p l) (hlen:l.length<=1000):
  Calls Tryz.prog 86 #[.slice p l.length cap] w fun e w'=>∃v,e= .returned v/\OwnR w' w.heap.size 2 1 v (timesG l).length ((timesG l).map (Value.int .i64))/\Below w.heap.size w w':=by
 obtain⟨i0,hi,hz0,hz1,hz2⟩:=info_parts Tryz.infoI64
 go_enter Tryz.func86,Tryz.ntmps86
 go_wp2
 refine wp_loop (tiRel w p l cap) (fun a' _=>l.length-(intAt (a'.tmps.getD 4 undef)).toNat) ?_ ?_
 ·unfold tiRel
  exact⟨Below.refl _ _,0,[],_,frame_ex rfl,OwnR.nil _ _ _ _,by simp[timesL],by omega,by simp,by simp[cnt]⟩
 ·rintro a' W ⟨hW0,i,T,v,⟨u,rfl⟩,hown,hT,hi',hfit,hcnt⟩
  have hz:=hW0.size
  obtain⟨pv,cv,rfl,hcv,hcm,-,-⟩:=hown.form
  have hTl:(T.length:Int)=cnt (l.take i):=by
   rw[hT];exact length_timesL _ fun r hr=>by have:=hfit r hr;unfold fitR at this;simp at this;omega
  have hT256:T.length<=256:=by omega
  replace hT:=Hd hT
  replace hfit:=Hd hfit
  replace hcnt:=Hd hcnt
  replace hTl:=Hd hTl
  rcases Nat.lt_or_ge i l.length with hlt|hge
  ·obtain⟨r,hri⟩:∃r,l[i]? =some r:=⟨l[i]'(by omega),List.getElem?_eq_getElem (by omega)⟩
   obtain⟨b,o,rfl,k0,k1,k2⟩:=(h.below hW0).at' i r hri
   replace hri:=Hd hri
   obtain⟨S,hS⟩:∃S,wrap64 ((T.length:Int)+r.c)=S:=⟨_,rfl⟩
   replace hS:=Hd hS
   go_upto_region 6 with(fail)
   refine wp_cutB W (Bc W.heap.size #[.int .i64 r.f,.int .i64 r.s,.int .i64 r.c] 69<|Rc (fun W'=>OwnR W' w.heap.size 2 1 (.slice pv T.length cv) T.length (T.map (Value.int .i64)))<|Bz) ?_ (hI:=by exact belowAny) (hR:=(Bc.mk (by exact blkAny2)<|Rc.mk (by exact hown.below belowAny)<|trivial))
   rintro W1 hW z2 hL
   obtain⟨⟨b1,yb1,k1,f1⟩,b2,-⟩:=id hL
   clear k1 f1
   refine wp_regS 36 70 hW hL ?_
   iterate 4 refine dE (fun W' hC=>hS.out) ?_
   iterate 3 refine gE (fun W' hC=>hS.out) ?_
   refine pO ?_
   refine dE (fun W' hC=>hS.out) ?_
   iterate 6 refine gE (fun W' hC=>hS.out) ?_
   refine pO ?_
   refine dE (fun W' hC=>hS.out) ?_
   iterate 3 refine gE (fun W' hC=>hS.out) ?_
   refine pO ?_
   refine dE (fun W' hC=>hS.out) ?_
   iterate 3 refine gE (fun W' hC=>hS.out) ?_
   refine pO ?_
   refine dE (fun W' hC=>hS.out) ?_
   iterate 3 refine gE (fun W' hC=>hS.out) ?_
   refine pO ?_
   refine dE (fun W' hC=>hS.out) ?_
   iterate 3 refine gE (fun W' hC=>hS.out) ?_
   refine pO ?_
   clear hW hL b1 b2
   rintro W3 hW z4 hL
   simp only[ndR]
   intros
   simp only[ndS]
   refine wpList_nil ?_
   obtain⟨⟨b1,yb1,k1,f1⟩,b2,-⟩:=hL
   obtain⟨F,hF⟩:∃F,(decide (r.c<1)||decide (256<r.c)||decide (256<S)||decide (r.s<0)||decide (281474976710656<r.s)||decide (r.f<0)||decide (281474976710656<r.f))=F:=⟨_,rfl⟩
   rw[hF]
   have hrt:=Hd (show (l.take (i+1))=l.take i++ [r] by rw[List.take_succ_eq_append_getElem hlt];have:=hri.out;rw[List.getElem?_eq_getElem hlt] at this;injection this with this;rw[this])
   cases F with
   |true=>
    have hG:timesG l= []:=by
     unfold timesG
     rw[if_neg]
     intro hh
     unfold fitL at hh
     simp only[Bool.and_eq_true,List.all_eq_true,decide_eq_true_eq] at hh
     have hr:=hh.1 r (List.mem_of_getElem? hri.out)
     unfold fitR at hr
     simp at hr
     simp at hF
     have hc2:=cnt_takeLe l (i+1) fun q hq=>by have:=hh.1 q hq;unfold fitR at this;simp at this;omega
     rw[hrt.out,cnt_append] at hc2
     simp only[cnt] at hc2
     have h3:=hTl.out
     have h4:=hS.out
     rw[wrap64_eq] at h4
     omega
    clear hF
    replace hG:=Hd hG
    go_wp2
    go_ret
    exact⟨_,rfl,by rw[hG.out];exact OwnR.nil _ _ _ _,hW0.trans (hW.mono hz)⟩
   |false=>
    simp only[Bool.or_eq_false_iff,decide_eq_false_iff_not] at hF
    obtain⟨⟨⟨⟨⟨⟨f1,f2⟩,f3⟩,f4⟩,f5⟩,f6⟩,f7⟩:=hF
    have hSS:S=T.length+r.c:=by have h4:=hS.out;rw[wrap64_eq] at h4;omega
    clear hS
    subst hSS
    have zb:=b1.lt
    have zz:=Nat.le_trans hz hW.size
    have hB1:=hW0.trans (hW.mono hz)
    clear hW hown k0 k1 k2
    go_wp2
    refine wp_loop (tjRel w (some ⟨b,o,none⟩) l cap i T r W.heap.size) (fun a' _=>r.c.toNat-(intAt (a'.tmps.getD 6 undef)).toNat) ?_ ?_
    ·unfold tjRel
     exact⟨hB1,b1,0,T,_,frame_ex rfl,b2,by simp,by omega⟩
    ·rintro a' W2 ⟨hW1,b1,k,T1,v,⟨u,rfl⟩,hown,hT1,hk⟩
     have ya1:=hW1.size
     have zb2:=b1.lt
     have hl1:T1.length=T.length+k:=by rw[hT1];simp
     have hl9:T1.length<=256:=by omega
     replace hT1:=Hd hT1
     replace hl1:=Hd hl1
     have k1:=b1.cell
     have g1:=b1.frozen
     rcases Int.lt_or_le (k:Int) r.c with hkc|hkc
     ·obtain⟨M,hM⟩:∃M,(k:Int)*r.s=M:=⟨_,rfl⟩
      have m0:0<=M:=hM▸Int.mul_nonneg (by omega) (by omega)
      have m1:M<=256*281474976710656:=hM▸Int.mul_le_mul (by omega) (by omega) (by omega) (by omega)
      have hown':=hown.own
      go_wp2_with (at_builtin;refine wpList_append_own _ rfl (.tmp 59) (.tmp 67) 47 rfl w.heap.size 2 i0 (.int .i64 0) 1 8 (by kernel_rfl) hi hz0 hz1 hz2 rfl (by decide) _ _ _ rfl (hown'.alloc _) ⟨W2.heap.size,0,none⟩ 1 1 [.int .i64 (r.f+M)] rfl rfl (cell_one_new _ _ _) (by simp[Value.oneCell']) (by simp[maxLen];omega) (by omega) (by simp;omega) ?_)
      intro v' w1 hown2 hgr _
      have hB:=Hd (below_append hW1 ya1 hown' hgr)
      have b2:=b1.grown hown' (by decide) hgr
      clear hgr hown' hown
      replace hown2:=Hd hown2
      clear b1 k1 g1
      go_wp2
      rw[show (k:Int)+1=((k+1:Nat):Int) by omega]
      refine⟨?_,by simp[intAt];omega⟩
      unfold tjRel
      exact⟨hB.out,b2,k+1,T1++ [r.f+M],v',frame_ex rfl,⟨by simpa using hown2.out⟩,by rw[hT1.out,List.range_succ,List.map_append,List.append_assoc,<-hM,Int.mul_comm];rfl,by omega⟩
     ·have hkc2:(k:Int)=r.c:=by omega
      have hTT:=Hd (show T1=timesL (l.take (i+1)) by
       rw[hrt.out,timesL_append,hT1.out,<-hT.out]
       show _=T++(timesR r++ [])
       rw[List.append_nil]
       unfold timesR
       rw[show r.c.toNat=k by omega])
      have hfit2:=Hd (show∀q,q∈l.take (i+1)->fitR q=true by
       intro q hq
       rw[hrt.out] at hq
       rcases List.mem_append.1 hq with hq|hq
       ·exact hfit.out q hq
       ·rw[List.mem_singleton.1 hq]
        unfold fitR
        simp
        omega)
      have hcnt2:=Hd (show cnt (l.take (i+1))<=256 by
       rw[hrt.out,cnt_append,<-hTl.out]
       simp only[cnt]
       omega)
      clear hkc2 f3
      go_wp2
      rw[show (i:Int)+1=((i+1:Nat):Int) by omega]
      refine⟨?_,by simp[intAt];omega⟩
      unfold tiRel
      exact⟨hW1,i+1,T1,v,frame_ex rfl,hown,hTT.out,by omega,hfit2.out,hcnt2.out⟩
  ·obtain rfl:i=l.length:=by omega
   have hG:timesG l=T:=by
    unfold timesG fitL
    have h1:=hfit.out
    have h2:=hcnt.out
    rw[List.take_length] at h1 h2
    rw[if_pos (by simp only[Bool.and_eq_true,List.all_eq_true,decide_eq_true_eq];exact⟨h1,h2⟩),hT.out,List.take_length]
   replace hG:=Hd hG
   go_wp2
   go_ret
   exact⟨_,rfl,by rw[hG.out];exact hown,hW0⟩
structure UpTo (T:List Int) (n:Nat):Prop where
 lo:∀(k:Nat) (x:Int),k<n->T[k]? =some x->0<=x/\x<=281474976710656
 up:∀(k:Nat) (x y:Int),k+1<n->T[k]? =some x->T[k+1]? =some y->x<y
theorem UpTo.pair :∀ {T:List Int},UpTo T T.length->T.Pairwise (·<·)
 | [],_=>List.Pairwise.nil
 | [a],_=>by simp
 |a::b::l,h=>by
  have ht:UpTo (b::l) (b::l).length:=⟨fun k x hk hx=>h.lo (k+1) x (by simp at hk⊢;omega) (by simpa using hx),fun k x y hk hx hy=>h.up (k+1) x y (by simp at hk⊢;omega) (by simpa using hx) (by simpa using hy)⟩
  have ih:=ht.pair
  have hab:a<b:=h.up 0 a b (by simp) (by simp) (by simp)
  refine List.pairwise_cons.2 ⟨fun c hc=> ?_,ih⟩
  rcases List.mem_cons.1 hc with rfl|hc
  ·exact hab
  ·have:=(List.pairwise_cons.1 ih).1 c hc;omega
theorem UpTo.rising {T:List Int} (h:UpTo T T.length) (h0:1<=T.length) (h1:T.length<=256):risingB T=true:=
 (risingB_iff T).2 ⟨h0,h1,h.pair,fun x hx=>by
  obtain⟨k,hk⟩:=List.getElem?_of_mem hx
  exact h.lo k x (List.getElem?_eq_some_iff.1 hk).1 hk⟩
theorem rising_bad {T:List Int} (h:¬(1<=T.length/\T.length<=256/\Rising T)):risingB T=false:=by
 rcases hb:risingB T with _|_
 ·rfl
 ·exact absurd ((risingB_iff T).1 hb) h
def risRel (w:World) (b o cap:Nat) (T:List Int) (a':Act) (W:World):Prop:=
 Below w.heap.size w W/\∃(i:Nat),(∃u:Nat->Value,a'= {tmps:= #[.slice (some ⟨b,o,none⟩) T.length cap,u 1,.bool false,.int .i64 (i:Int),u 4,u 5,u 6,u 7,u 8,u 9,u 10,u 11,u 12,u 13,u 14,u 15,u 16,u 17,u 18,u 19,u 20,u 21,u 22,u 23,u 24,u 25,u 26,u 27,u 28,u 29,u 30,u 31,u 32,u 33,u 34,u 35,u 36,u 37,u 38,u 39,u 40,u 41,u 42,u 43,u 44,u 45],defers:= []})/\i<=T.length/\UpTo T i
theorem c_refrising (p:Option Addr) (cap:Nat) (T:List Int) (w:World) (hlen:T.length<=1000000) (hT0:IntsIn w p T):
  Cb 145 #[.slice p T.length cap] w (.bool (risingB T)):=by
 go_enter Tryz.func145,Tryz.ntmps145
 rcases Nat.lt_or_ge T.length 1 with h1|h1
 ·have hr:=rising_bad (T:=T) (by omega)
  rw[hr]
  clear hr
  go_wp2
  go_ret
  exact⟨rfl,Below.refl _ _⟩
 rcases Nat.lt_or_ge 256 T.length with h2|h2
 ·have hr:=rising_bad (T:=T) (by omega)
  rw[hr]
  clear hr
  go_wp2
  go_ret
  exact⟨rfl,Below.refl _ _⟩
 obtain⟨b,o,rfl⟩:∃b o,p=some ⟨b,o,none⟩:=by
  obtain⟨b,o,e,_⟩:=hT0.at' 0 _ (List.getElem?_eq_getElem (show 0<T.length by omega))
  exact⟨b,o,e⟩
 go_wp2
 refine wp_loop (risRel w b o cap T) (fun a' _=>T.length-(intAt (a'.tmps.getD 3 undef)).toNat) ?_ ?_
 ·unfold risRel
  exact⟨Below.refl _ _,0,frame_ex rfl,by omega,⟨fun k x hk=>by omega,fun k x y hk=>by omega⟩⟩
 ·rintro a' W ⟨hW0,i,⟨u,rfl⟩,hi',hup⟩
  have hz:=hW0.size
  have hT:IntsP W b o T:=⟨hT0.below hW0⟩
  replace hup:=Hd hup
  rcases Nat.lt_or_ge i T.length with hlt|hge
  ·obtain⟨x,tx⟩:∃x,T[i]? =some x:=⟨T[i]'(by omega),List.getElem?_eq_getElem (by omega)⟩
   replace tx:=Hd tx
   rcases Nat.eq_zero_or_pos i with hi0|hi0
   ·have e10:=Hd (show decide (0<(i:Int))=false by simp;omega)
    replace hi0:=Hd hi0
    go_upto_region 6 with(fail)
    refine wp_cutB W (Rc (fun W'=>IntsP W' b o T)<|Bz) ?_ (hI:=by exact belowAny) (hR:=(Rc.mk (by exact hT.below belowAny)<|trivial))
    rintro W1 hW z2 hL
    obtain⟨b1,-⟩:=id hL
    refine wp_regQ 28 46 hW hL ?_
    iterate 6 refine dE (fun W' hC=>aI (hC.2.1.cellAt tx.out) (aI hlt e10.out)) ?_
    iterate 5 refine gE (fun W' hC=>aI (hC.2.1.cellAt tx.out) (aI hlt e10.out)) ?_
    refine pO ?_
    refine dE (fun W' hC=>aI (hC.2.1.cellAt tx.out) (aI hlt e10.out)) ?_
    iterate 3 refine gE (fun W' hC=>aI (hC.2.1.cellAt tx.out) (aI hlt e10.out)) ?_
    apply nd_detg (p:=_) (c:=undef) (hg:=rfl) (hd:=rfl) (hal:=rfl)
    ·intro v W' h
     exact h
    ·intro hp hx
     exfalso
     simp at hx
     have:=hi0.out
     omega
    apply nd_detg (p:=_) (c:=undef) (hg:=rfl) (hd:=rfl) (hal:=rfl)
    ·intro v W' h
     exact h
    ·intro hp hx
     exfalso
     simp at hx
     have:=hi0.out
     omega
    apply nd_detg (p:=_) (c:=undef) (hg:=rfl) (hd:=rfl) (hal:=rfl)
    ·intro v W' h
     exact h
    ·intro hp hx
     exfalso
     simp at hx
     have:=hi0.out
     omega
    apply nd_detg (p:=_) (c:=undef) (hg:=rfl) (hd:=rfl) (hal:=rfl)
    ·intro v W' h
     exact h
    ·intro hp hx
     exfalso
     simp at hx
     have:=hi0.out
     omega
    apply nd_detg (p:=_) (c:=undef) (hg:=rfl) (hd:=rfl) (hal:=rfl)
    ·intro v W' h
     exact h
    ·intro hp hx
     exfalso
     simp at hx
     have:=hi0.out
     omega
    apply nd_detg (p:=_) (c:=undef) (hg:=rfl) (hd:=rfl) (hal:=rfl)
    ·intro v W' h
     exact h
    ·intro hp hx
     exfalso
     simp at hx
     have:=hi0.out
     omega
    apply nd_detg (p:=_) (c:=undef) (hg:=rfl) (hd:=rfl) (hal:=rfl)
    ·intro v W' h
     exact h
    ·intro hp hx
     exfalso
     simp at hx
     have:=hi0.out
     omega
    apply nd_detg (p:=_) (c:=undef) (hg:=rfl) (hd:=rfl) (hal:=rfl)
    ·intro v W' h
     exact h
    ·intro hp hx
     exfalso
     simp at hx
     have:=hi0.out
     omega
    apply nd_detg (p:=_) (c:=undef) (hg:=rfl) (hd:=rfl) (hal:=rfl)
    ·intro v W' h
     exact h
    ·intro hp hx
     exfalso
     simp at hx
     have:=hi0.out
     omega
    apply nd_detg (p:=_) (c:=undef) (hg:=rfl) (hd:=rfl) (hal:=rfl)
    ·intro v W' h
     exact h
    ·intro hp hx
     exfalso
     simp at hx
     have:=hi0.out
     omega
    apply nd_pickg_and (y:=false) (p:=true) (ho:=rfl) (hg:=rfl) (hd:=rfl)
    ·intro v W' h
     simp[envOf,Det] at h
     simp
     exact h
    ·intro _ hx v W' h
     simp[envOf,Det,GDet,hx] at h
     exact h
    ·intro hp hx v W' h hy
     exfalso
     simp at hy
     have:=hi0.out
     omega
    refine pO ?_
    clear hW hL b1
    rintro W3 hW z4 hL
    simp only[ndR]
    intros
    repeat (rename GDet _ _ _ _=>hgd;clear hgd)
    simp only[ndS]
    refine wpList_nil ?_
    obtain⟨b1,-⟩:=hL
    obtain⟨F,hF⟩:∃F,(decide (x<0)||decide (281474976710656<x)||false)=F:=⟨_,rfl⟩
    rw[hF]
    cases F with
    |true=>
     have hr:=Hd (show risingB T=false from rising_bad (fun hh=>by
      have h3:=hh.2.2.lo x (List.mem_of_getElem? tx.out)
      simp at hF;omega))
     clear hF
     go_wp2
     go_ret
     exact⟨by rw[hr.out];rfl,hW0.trans (hW.mono hz)⟩
    |false=>
     have hup':=Hd (show UpTo T (i+1) from ⟨fun k v hk hv=>by
       rcases Nat.lt_or_ge k i with h|h
       ·exact hup.out.lo k v h hv
       ·obtain rfl:k=i:=by omega
        rw[tx.out] at hv
        injection hv with hv
        subst hv
        simp at hF;omega,fun k v v' hk hv hw=>by
       rcases Nat.lt_or_ge (k+1) i with h|h
       ·exact hup.out.up k v v' h hv hw
       ·have e:k+1=i:=by omega
        have:=hi0.out;omega⟩)
     clear hF
     go_wp2
     rw[show (i:Int)+1=((i+1:Nat):Int) by omega]
     refine⟨?_,by simp[intAt];omega⟩
     unfold risRel
     exact⟨hW0.trans (hW.mono hz),i+1,frame_ex rfl,by omega,hup'.out⟩
   ·obtain⟨y,ty⟩:∃y,T[i-1]? =some y:=⟨T[i-1]'(by omega),List.getElem?_eq_getElem (by omega)⟩
    replace ty:=Hd ty
    have e8:=Hd (show wrap64 ((i:Int)-1)=((i-1:Nat):Int) by rw[wrap64_eq];omega)
    have e9:i-1<T.length:=by omega
    have e10:=Hd (show decide (0<(i:Int))=true by simp;omega)
    go_upto_region 6 with(fail)
    refine wp_cutB W (Rc (fun W'=>IntsP W' b o T)<|Bz) ?_ (hI:=by exact belowAny) (hR:=(Rc.mk (by exact hT.below belowAny)<|trivial))
    rintro W1 hW z2 hL
    obtain⟨b1,-⟩:=id hL
    refine wp_regQ 28 46 hW hL ?_
    iterate 6 refine dE (fun W' hC=>aI (hC.2.1.cellAt tx.out) (aI (hC.2.1.cellAt ty.out) (aI e8.out (aI e9 (aI e10.out hlt))))) ?_
    iterate 5 refine gE (fun W' hC=>aI (hC.2.1.cellAt tx.out) (aI (hC.2.1.cellAt ty.out) (aI e8.out (aI e9 (aI e10.out hlt))))) ?_
    refine pO ?_
    refine dE (fun W' hC=>aI (hC.2.1.cellAt tx.out) (aI (hC.2.1.cellAt ty.out) (aI e8.out (aI e9 (aI e10.out hlt))))) ?_
    iterate 3 refine gE (fun W' hC=>aI (hC.2.1.cellAt tx.out) (aI (hC.2.1.cellAt ty.out) (aI e8.out (aI e9 (aI e10.out hlt))))) ?_
    iterate 10 refine gF (fun W' hC=>aI (hC.2.1.cellAt tx.out) (aI (hC.2.1.cellAt ty.out) (aI e8.out (aI e9 (aI e10.out hlt))))) ?_
    refine pgA ?_
    refine pO ?_
    clear hW hL b1
    rintro W3 hW z4 hL
    simp only[ndR]
    intros
    repeat (rename GDet _ _ _ _=>hgd;clear hgd)
    simp only[ndS]
    refine wpList_nil ?_
    obtain⟨b1,-⟩:=hL
    obtain⟨F,hF⟩:∃F,(decide (x<0)||decide (281474976710656<x)||decide (0<i)&&decide (x<=y))=F:=⟨_,rfl⟩
    rw[hF]
    cases F with
    |true=>
     have hr:=Hd (show risingB T=false from rising_bad (fun hh=>by
      have h3:=hh.2.2.lo x (List.mem_of_getElem? tx.out)
      have h4:=List.pairwise_iff_getElem.1 hh.2.2.up (i-1) i e9 hlt (by omega);have t1:=tx.out;have t2:=ty.out;rw[List.getElem?_eq_getElem hlt] at t1;rw[List.getElem?_eq_getElem e9] at t2;injection t1 with t1;injection t2 with t2;rw[t1,t2] at h4;simp at hF;omega))
     clear hF
     go_wp2
     go_ret
     exact⟨by rw[hr.out];rfl,hW0.trans (hW.mono hz)⟩
    |false=>
     have hup':=Hd (show UpTo T (i+1) from ⟨fun k v hk hv=>by
       rcases Nat.lt_or_ge k i with h|h
       ·exact hup.out.lo k v h hv
       ·obtain rfl:k=i:=by omega
        rw[tx.out] at hv
        injection hv with hv
        subst hv
        simp at hF;omega,fun k v v' hk hv hw=>by
       rcases Nat.lt_or_ge (k+1) i with h|h
       ·exact hup.out.up k v v' h hv hw
       ·have e:k+1=i:=by omega
        rw[e,tx.out] at hw;rw[show k=i-1 by omega,ty.out] at hv;injection hv with hv;injection hw with hw;subst hv;subst hw;simp at hF;omega⟩)
     clear hF
     go_wp2
     rw[show (i:Int)+1=((i+1:Nat):Int) by omega]
     refine⟨?_,by simp[intAt];omega⟩
     unfold risRel
     exact⟨hW0.trans (hW.mono hz),i+1,frame_ex rfl,by omega,hup'.out⟩
  ·obtain rfl:i=T.length:=by omega
   have hr:=Hd (hup.out.rising h1 h2)
   go_wp2
   go_ret
   exact⟨by rw[hr.out];rfl,hW0⟩
theorem cell_three_new (W:World) (a b c:Value) (t:TypeId) (j:Nat) (u:Value) (h: [a,b,c][j]? =some u):(W.alloc (.cells #[a,b,c] t)).cell? ((⟨W.heap.size,0,none⟩:Addr).add j)=some u:=by
 have hb:Blk (W.alloc (.cells #[a,b,c] t)) W.heap.size #[a,b,c] t:=Blk.new' rfl
 have hadd:(⟨W.heap.size,0,none⟩:Addr).add j=⟨W.heap.size,j,none⟩:=by unfold Addr.add;split<;>simp_all
 rw[hadd,hb.cell]
 simpa using h
theorem flatCells_snoc (L:List RunT) (r:RunT):flatCells (L++ [r])=flatCells L++ [.int .i64 r.f,.int .i64 r.s,.int .i64 r.c]:=by
 induction L with
 |nil=>rfl
 |cons q L ih=>simp only[List.cons_append,flatCells,ih]
theorem drop_two {T:List Int} {i:Nat} {a b:Int} (ha:T[i]? =some a) (hb:T[i+1]? =some b):T.drop i=a::b::T.drop (i+2):=by
 obtain⟨h1,rfl⟩:=List.getElem?_eq_some_iff.1 ha
 obtain⟨h2,rfl⟩:=List.getElem?_eq_some_iff.1 hb
 rw[List.drop_eq_getElem_cons h1,List.drop_eq_getElem_cons h2]
theorem of_step {T:List Int} {i j:Nat} {a b:Int} (ha:T[i]? =some a) (hb:T[i+1]? =some b) (hij:i+1<=j) (hx:extn (b-a) b (T.drop (i+2))=j-i-1):ofL (T.drop i)=⟨a,b-a,((j-i+1:Nat):Int)⟩::ofL (T.drop (j+1)):=by
 rw[drop_two ha hb,ofL_more,hx,List.drop_drop]
 congr 2
 ·rw[show j-i-1+2=j-i+1 by omega]
 ·congr 1;omega
theorem of_last {T:List Int} {i:Nat} {a:Int} (ha:T[i]? =some a) (hl:i+1=T.length):ofL (T.drop i)= [⟨a,0,1⟩]:=by
 obtain⟨h1,rfl⟩:=List.getElem?_eq_some_iff.1 ha
 rw[List.drop_eq_getElem_cons h1,List.drop_eq_nil_of_le (by omega),ofL_one]
theorem extn_on {T:List Int} {j:Nat} {x y s:Int} (hy:T[j+1]? =some y) (h:y-x=s):extn s x (T.drop (j+1))=extn s y (T.drop (j+2))+1:=by
 obtain⟨h1,rfl⟩:=List.getElem?_eq_some_iff.1 hy
 rw[List.drop_eq_getElem_cons h1]
 simp only[extn]
 rw[if_pos h]
theorem extn_off {T:List Int} {j:Nat} {x y s:Int} (hy:T[j+1]? =some y) (h:¬y-x=s):extn s x (T.drop (j+1))=0:=by
 obtain⟨h1,rfl⟩:=List.getElem?_eq_some_iff.1 hy
 rw[List.drop_eq_getElem_cons h1]
 simp only[extn]
 rw[if_neg h]
theorem extn_end {T:List Int} {j:Nat} {x s:Int} (h:j+1=T.length):extn s x (T.drop (j+1))=0:=by
 rw[List.drop_eq_nil_of_le (by omega)];rfl
def ofRel (w:World) (b o cap:Nat) (T:List Int) (a':Act) (W:World):Prop:=
 Below w.heap.size w W/\∃(i:Nat) (L:List RunT) (v:Value),(∃u:Nat->Value,a'= {tmps:= #[.slice (some ⟨b,o,none⟩) T.length cap,u 1,.slice none 0 0,v,.int .i64 (i:Int),u 5,u 6,u 7,u 8,u 9,u 10,u 11,u 12,u 13,u 14,u 15,u 16,u 17,u 18,u 19,u 20,u 21,u 22,u 23,u 24,u 25,u 26,u 27,u 28,u 29,u 30,u 31,u 32,u 33,u 34,u 35,u 36,u 37,u 38,u 39,u 40,u 41,u 42,u 43,u 44,u 45,u 46,u 47,u 48,u 49,u 50,u 51,u 52,u 53,u 54,u 55,u 56,u 57,u 58,u 59,u 60,u 61,u 62,u 63,u 64,u 65,u 66,u 67,u 68,u 69,u 70,u 71,u 72,u 73,u 74,u 75,u 76,u 77,u 78,u 79,u 80],defers:= []})/\
  OwnR W w.heap.size 69 3 v L.length (flatCells L)/\ofL T=L++ofL (T.drop i)/\i<=T.length/\L.length<=i
def ojRel (w:World) (b o cap:Nat) (T:List Int) (i:Nat) (v:Value) (L:List RunT) (s x1:Int) (a':Act) (W:World):Prop:=
 Below w.heap.size w W/\∃(j:Nat) (x:Int),(∃u:Nat->Value,a'= {tmps:= #[.slice (some ⟨b,o,none⟩) T.length cap,u 1,.slice none 0 0,v,.int .i64 (i:Int),.int .i64 (j:Int),u 6,u 7,u 8,u 9,u 10,u 11,u 12,u 13,u 14,u 15,u 16,u 17,u 18,u 19,u 20,u 21,u 22,u 23,u 24,u 25,u 26,u 27,u 28,u 29,u 30,u 31,u 32,u 33,u 34,u 35,u 36,u 37,u 38,u 39,u 40,u 41,u 42,u 43,u 44,u 45,u 46,u 47,u 48,u 49,u 50,u 51,u 52,u 53,u 54,u 55,u 56,u 57,u 58,u 59,u 60,u 61,u 62,u 63,u 64,u 65,u 66,u 67,u 68,u 69,u 70,u 71,u 72,u 73,u 74,u 75,u 76,u 77,u 78,u 79,u 80],defers:= []})/\
  OwnR W w.heap.size 69 3 v L.length (flatCells L)/\i+1<=j/\j<T.length/\T[j]? =some x/\extn s x1 (T.drop (i+2))=(j-i-1)+extn s x (T.drop (j+1))
theorem refof_w (b o cap:Nat) (T:List Int) (w:World) (hlen:T.length<=256) (hr:Rising T) (hT0:IntsP w b o T):
  Calls Tryz.prog 146 #[.slice (some ⟨b,o,none⟩) T.length cap] w fun e w'=>∃v,e= .returned v/\OwnR w' w.heap.size 69 3 v (ofL T).length (flatCells (ofL T))/\Below w.heap.size w w':=by
 obtain⟨i0,hi,hz0,hz1,hz2⟩:=info_parts Tryz.infoRun
 have hbd:=Hd (fun(k:Nat) (x:Int) (h:T[k]? =some x)=>hr.lo x (List.mem_of_getElem? h))
 clear hr
 go_enter Tryz.func146,Tryz.ntmps146
 go_wp2
 refine wp_loop (ofRel w b o cap T) (fun a' _=>T.length-(intAt (a'.tmps.getD 4 undef)).toNat) ?_ ?_
 ·unfold ofRel
  exact⟨Below.refl _ _,0,[],_,frame_ex rfl,OwnR.nil _ _ _ _,by simp,by omega,by simp⟩
 ·rintro a' W ⟨hW0,i,L,v,⟨u,rfl⟩,hown,hL,hi',hLi⟩
  have hz:=hW0.size
  have hT:=hT0.below hW0
  have hown':=hown.own
  replace hL:=Hd hL
  rcases Nat.lt_or_ge i T.length with hlt|hge
  ·obtain⟨a,ta⟩:∃a,T[i]? =some a:=⟨T[i]'(by omega),List.getElem?_eq_getElem (by omega)⟩
   have ba:=hbd.out i a ta
   rcases Nat.lt_or_ge (i+1) T.length with hlt1|hge1
   ·obtain⟨x1,tb⟩:∃x1,T[i+1]? =some x1:=⟨T[i+1]'(by omega),List.getElem?_eq_getElem (by omega)⟩
    have bb:=hbd.out (i+1) x1 tb
    replace ta:=Hd ta
    replace tb:=Hd tb
    clear hown'
    go_wp2
    refine wp_loop (ojRel w b o cap T i v L (x1-a) x1) (fun a' _=>T.length-(intAt (a'.tmps.getD 5 undef)).toNat) ?_ ?_
    ·unfold ojRel
     rw[show (i:Int)+1=((i+1:Nat):Int) by omega]
     exact⟨hW0,i+1,x1,frame_ex rfl,hown,by omega,hlt1,tb.out,by rw[show i+1-i-1=0 by omega,Nat.zero_add]⟩
    ·rintro a' W ⟨hW1,j,x,⟨u,rfl⟩,hown,hij,hjl,tx,hex⟩
     have ya:=hW1.size
     have hT:=hT0.below hW1
     have bx:=hbd.out j x tx
     replace tx:=Hd tx
     replace hex:=Hd hex
     have l1:=hlt
     have l2:=hlt1
     have l3:=hjl
     have E2:=Hd (show wrap64 (x1-a)=x1-a by rw[wrap64_eq];omega)
     have E3:=Hd (show wrap64 ((j:Int)+1)=((j+1:Nat):Int) by rw[wrap64_eq];omega)
     have E4:=Hd (show wrap64 ((i:Int)+1)=((i+1:Nat):Int) by rw[wrap64_eq];omega)
     have G2:=Hd (show 0<=(i:Int)+1/\(i:Int)+1<(T.length:Int) by omega)
     rcases Nat.lt_or_ge (j+1) T.length with hj1|hj1
     ·obtain⟨y,ty⟩:∃y,T[j+1]? =some y:=⟨T[j+1]'(by omega),List.getElem?_eq_getElem (by omega)⟩
      have by':=hbd.out (j+1) y ty
      replace ty:=Hd ty
      have l4:=hj1
      have G1:=Hd (show 0<=(j:Int)+1/\(j:Int)+1<(T.length:Int) by omega)
      have E1:=Hd (show wrap64 (y-x)=y-x by rw[wrap64_eq];omega)
      have E5:=Hd (show decide (((j+1:Nat):Int)<(T.length:Int))=true by simp;omega)
      go_upto_region 8 with(fail)
      refine wp_cutB W (Rc (fun W'=>IntsP W' b o T)<|Rc (fun W'=>OwnR W' w.heap.size 69 3 v L.length (flatCells L))<|Bz) ?_ (hI:=by exact belowAny) (hR:=(Rc.mk (by exact hT.below belowAny)<|Rc.mk (by exact hown.below belowAny)<|trivial))
      rintro W1 hW z2 hL
      obtain⟨b1,b2,-⟩:=id hL
      refine wp_regQ 28 81 hW hL ?_
      iterate 6 refine dE (fun W' hC=>aI (hC.2.1.cellAt ta.out) (aI (hC.2.1.cellAt tb.out) (aI (hC.2.1.cellAt tx.out) (aI (hC.2.1.cellAt ty.out) (aI E1.out (aI E2.out (aI E3.out (aI E4.out (aI l1 (aI l2 (aI l3 (aI l4 (aI E5.out (aI G1.out G2.out)))))))))))))) ?_
      iterate 21 refine gE (fun W' hC=>aI (hC.2.1.cellAt ta.out) (aI (hC.2.1.cellAt tb.out) (aI (hC.2.1.cellAt tx.out) (aI (hC.2.1.cellAt ty.out) (aI E1.out (aI E2.out (aI E3.out (aI E4.out (aI l1 (aI l2 (aI l3 (aI l4 (aI E5.out (aI G1.out G2.out)))))))))))))) ?_
      refine pA ?_
      clear hW hL b1 b2
      rintro W3 hW z4 hL
      simp only[ndR]
      intros
      simp only[ndS]
      refine wpList_nil ?_
      obtain⟨b1,b2,-⟩:=hL
      by_cases hs:y-x=x1-a
      ·
       rw[show (true&&y-x==x1-a)=true by simp[hs]]
       have hex':=Hd (show extn (x1-a) x1 (T.drop (i+2))=(j+1-i-1)+extn (x1-a) y (T.drop (j+1+1)) by rw[hex.out,extn_on ty.out hs,show j+1+1=j+2 from rfl];omega)
       clear hs hex E1 E2 E3 E4 E5 G1 G2
       go_wp2
       rw[show (j:Int)+1=((j+1:Nat):Int) by omega]
       refine⟨?_,by simp[intAt];omega⟩
       unfold ojRel
       exact⟨hW1.trans (hW.mono ya),j+1,y,frame_ex rfl,b2,by omega,hj1,ty.out,hex'.out⟩
      ·rw[show (true&&y-x==x1-a)=false by simp[hs]]
       have hX:=Hd (show extn (x1-a) x1 (T.drop (i+2))=j-i-1 by rw[hex.out,extn_off ty.out hs,Nat.add_zero])
       clear hs hex E1 G1
       have hWc:=hW1.trans (hW.mono ya)
       have yb:=hWc.size
       clear hW hW1 ya
       have E6:=Hd (show wrap64 ((j:Int)-(i:Int))=((j-i:Nat):Int) by rw[wrap64_eq];omega)
       have E7:=Hd (show wrap64 (((j-i:Nat):Int)+1)=((j-i+1:Nat):Int) by rw[wrap64_eq];omega)
       go_upto_region 10 with(fail)
       refine wp_cutB W3 (Rc (fun W'=>IntsP W' b o T)<|Rc (fun W'=>OwnR W' w.heap.size 69 3 v L.length (flatCells L))<|Bz) ?_ (hI:=by exact belowAny) (hR:=(Rc.mk (by exact b1.below belowAny)<|Rc.mk (by exact b2.below belowAny)<|trivial))
       rintro W11 hW z12 hL
       obtain⟨b1,b2,-⟩:=id hL
       refine wp_regD 20 81 hW hL ?_
       iterate 20 refine dE (fun W' hC=>aI (hC.2.1.cellAt ta.out) (aI (hC.2.1.cellAt tb.out) (aI E2.out (aI E4.out (aI l1 (aI l2 (aI E6.out (aI E7.out G2.out)))))))) ?_
       clear hW hL b1 b2
       rintro W13 hW z14 hL
       simp only[ndR]
       intros
       simp only[ndS]
       obtain⟨b1,b2,-⟩:=hL
       have hWd:=hWc.trans (hW.mono yb)
       have yc:=hWd.size
       have hown':=b2.own
       clear hW b2 b1 E6 E7 E2 E3 E4 E5 G2 hown hT
       go_wp2_with (at_builtin;refine wpList_append_own _ rfl (.tmp 56) (.tmp 76) 44 rfl w.heap.size 69 i0 (.agg #[.int .i64 0,.int .i64 0,.int .i64 0]) 3 24 (by kernel_rfl) hi hz0 hz1 hz2 rfl (by decide) _ _ _ rfl (hown'.alloc _) ⟨W13.heap.size,0,none⟩ 1 1 [.int .i64 a,.int .i64 (x1-a),.int .i64 ((j-i+1:Nat):Int)] rfl rfl (cell_three_new _ _ _ _ _) (by simp[Value.oneCell']) (by simp[maxLen];omega) (by omega) (by simp;omega) ?_)
       intro v' w1 hown2 hgr _
       have hB:=Hd (below_append hWd yc hown' hgr)
       have hOL:=Hd (show ofL T=(L++ [⟨a,x1-a,((j-i+1:Nat):Int)⟩])++ofL (T.drop (j+1)) by rw[hL.out,of_step ta.out tb.out hij hX.out,List.append_assoc];rfl)
       replace hown2:=Hd hown2
       clear hgr hown' hWd hWc hX
       go_wp2
       rw[show (j:Int)+1=((j+1:Nat):Int) by omega]
       refine⟨?_,by simp[intAt];omega⟩
       unfold ofRel
       exact⟨hB.out,j+1,L++ [⟨a,x1-a,((j-i+1:Nat):Int)⟩],v',frame_ex rfl,⟨by rw[flatCells_snoc];simpa using hown2.out⟩,hOL.out,by omega,by simp;omega⟩
     ·have E5:=Hd (show decide (((j+1:Nat):Int)<(T.length:Int))=false by simp;omega)
      go_upto_region 8 with(fail)
      refine wp_cutB W (Rc (fun W'=>IntsP W' b o T)<|Rc (fun W'=>OwnR W' w.heap.size 69 3 v L.length (flatCells L))<|Bz) ?_ (hI:=by exact belowAny) (hR:=(Rc.mk (by exact hT.below belowAny)<|Rc.mk (by exact hown.below belowAny)<|trivial))
      rintro W1 hW z2 hL
      obtain⟨b1,b2,-⟩:=id hL
      refine wp_regQ 28 81 hW hL ?_
      iterate 6 refine dE (fun W' hC=>aI E3.out E5.out) ?_
      apply nd_detg (p:=true) (c:=undef) (hg:=rfl) (hd:=rfl) (hal:=rfl)
      ·intro v W' h
       simp[envOf,Det] at h
       simp
       exact h
      ·intro hp hx
       exfalso
       simp at hx
       omega
      apply nd_detg (p:=true) (c:=undef) (hg:=rfl) (hd:=rfl) (hal:=rfl)
      ·intro v W' h
       simp[envOf,Det] at h
       simp
       exact h
      ·intro hp hx
       exfalso
       simp at hx
       omega
      apply nd_detg (p:=true) (c:=undef) (hg:=rfl) (hd:=rfl) (hal:=rfl)
      ·intro v W' h
       simp[envOf,Det] at h
       simp
       exact h
      ·intro hp hx
       exfalso
       simp at hx
       omega
      apply nd_detg (p:=true) (c:=undef) (hg:=rfl) (hd:=rfl) (hal:=rfl)
      ·intro v W' h
       simp[envOf,Det] at h
       simp
       exact h
      ·intro hp hx
       exfalso
       simp at hx
       omega
      apply nd_detg (p:=true) (c:=undef) (hg:=rfl) (hd:=rfl) (hal:=rfl)
      ·intro v W' h
       simp[envOf,Det] at h
       simp
       exact h
      ·intro hp hx
       exfalso
       simp at hx
       omega
      apply nd_detg (p:=true) (c:=undef) (hg:=rfl) (hd:=rfl) (hal:=rfl)
      ·intro v W' h
       simp[envOf,Det] at h
       simp
       exact h
      ·intro hp hx
       exfalso
       simp at hx
       omega
      apply nd_detg (p:=true) (c:=undef) (hg:=rfl) (hd:=rfl) (hal:=rfl)
      ·intro v W' h
       simp[envOf,Det] at h
       simp
       exact h
      ·intro hp hx
       exfalso
       simp at hx
       omega
      apply nd_detg (p:=true) (c:=undef) (hg:=rfl) (hd:=rfl) (hal:=rfl)
      ·intro v W' h
       simp[envOf,Det] at h
       simp
       exact h
      ·intro hp hx
       exfalso
       simp at hx
       omega
      apply nd_detg (p:=true) (c:=undef) (hg:=rfl) (hd:=rfl) (hal:=rfl)
      ·intro v W' h
       simp[envOf,Det] at h
       simp
       exact h
      ·intro hp hx
       exfalso
       simp at hx
       omega
      apply nd_detg (p:=true) (c:=undef) (hg:=rfl) (hd:=rfl) (hal:=rfl)
      ·intro v W' h
       simp[envOf,Det] at h
       simp
       exact h
      ·intro hp hx
       exfalso
       simp at hx
       omega
      apply nd_detg (p:=true) (c:=undef) (hg:=rfl) (hd:=rfl) (hal:=rfl)
      ·intro v W' h
       simp[envOf,Det] at h
       simp
       exact h
      ·intro hp hx
       exfalso
       simp at hx
       omega
      apply nd_detg (p:=true) (c:=undef) (hg:=rfl) (hd:=rfl) (hal:=rfl)
      ·intro v W' h
       simp[envOf,Det] at h
       simp
       exact h
      ·intro hp hx
       exfalso
       simp at hx
       omega
      apply nd_detg (p:=true) (c:=undef) (hg:=rfl) (hd:=rfl) (hal:=rfl)
      ·intro v W' h
       simp[envOf,Det] at h
       simp
       exact h
      ·intro hp hx
       exfalso
       simp at hx
       omega
      apply nd_detg (p:=true) (c:=undef) (hg:=rfl) (hd:=rfl) (hal:=rfl)
      ·intro v W' h
       simp[envOf,Det] at h
       simp
       exact h
      ·intro hp hx
       exfalso
       simp at hx
       omega
      apply nd_detg (p:=true) (c:=undef) (hg:=rfl) (hd:=rfl) (hal:=rfl)
      ·intro v W' h
       simp[envOf,Det] at h
       simp
       exact h
      ·intro hp hx
       exfalso
       simp at hx
       omega
      apply nd_detg (p:=true) (c:=undef) (hg:=rfl) (hd:=rfl) (hal:=rfl)
      ·intro v W' h
       simp[envOf,Det] at h
       simp
       exact h
      ·intro hp hx
       exfalso
       simp at hx
       omega
      apply nd_detg (p:=true) (c:=undef) (hg:=rfl) (hd:=rfl) (hal:=rfl)
      ·intro v W' h
       simp[envOf,Det] at h
       simp
       exact h
      ·intro hp hx
       exfalso
       simp at hx
       omega
      apply nd_detg (p:=true) (c:=undef) (hg:=rfl) (hd:=rfl) (hal:=rfl)
      ·intro v W' h
       simp[envOf,Det] at h
       simp
       exact h
      ·intro hp hx
       exfalso
       simp at hx
       omega
      apply nd_detg (p:=true) (c:=undef) (hg:=rfl) (hd:=rfl) (hal:=rfl)
      ·intro v W' h
       simp[envOf,Det] at h
       simp
       exact h
      ·intro hp hx
       exfalso
       simp at hx
       omega
      apply nd_detg (p:=true) (c:=undef) (hg:=rfl) (hd:=rfl) (hal:=rfl)
      ·intro v W' h
       simp[envOf,Det] at h
       simp
       exact h
      ·intro hp hx
       exfalso
       simp at hx
       omega
      apply nd_detg (p:=true) (c:=undef) (hg:=rfl) (hd:=rfl) (hal:=rfl)
      ·intro v W' h
       simp[envOf,Det] at h
       simp
       exact h
      ·intro hp hx
       exfalso
       simp at hx
       omega
      apply nd_pick_and (y:=false) (ho:=rfl) (hg:=rfl)
      ·intro v W' h
       simp[envOf,Det] at h
       exact h
      ·intro v W' h hx
       exfalso
       simp at hx
       omega
      clear hW hL b1 b2
      rintro W3 hW z4 hL
      simp only[ndR]
      intros
      repeat (rename GDet _ _ _ _=>hgd;clear hgd)
      simp only[ndS]
      refine wpList_nil ?_
      obtain⟨b1,b2,-⟩:=hL
      rw[Bool.and_false]
      have hX:=Hd (show extn (x1-a) x1 (T.drop (i+2))=j-i-1 by rw[hex.out,extn_end (by omega),Nat.add_zero])
      clear hex
      have hWc:=hW1.trans (hW.mono ya)
      have yb:=hWc.size
      clear hW hW1 ya
      have E6:=Hd (show wrap64 ((j:Int)-(i:Int))=((j-i:Nat):Int) by rw[wrap64_eq];omega)
      have E7:=Hd (show wrap64 (((j-i:Nat):Int)+1)=((j-i+1:Nat):Int) by rw[wrap64_eq];omega)
      go_upto_region 10 with(fail)
      refine wp_cutB W3 (Rc (fun W'=>IntsP W' b o T)<|Rc (fun W'=>OwnR W' w.heap.size 69 3 v L.length (flatCells L))<|Bz) ?_ (hI:=by exact belowAny) (hR:=(Rc.mk (by exact b1.below belowAny)<|Rc.mk (by exact b2.below belowAny)<|trivial))
      rintro W11 hW z12 hL
      obtain⟨b1,b2,-⟩:=id hL
      refine wp_regD 20 81 hW hL ?_
      iterate 20 refine dE (fun W' hC=>aI (hC.2.1.cellAt ta.out) (aI (hC.2.1.cellAt tb.out) (aI E2.out (aI E4.out (aI l1 (aI l2 (aI E6.out (aI E7.out G2.out)))))))) ?_
      clear hW hL b1 b2
      rintro W13 hW z14 hL
      simp only[ndR]
      intros
      simp only[ndS]
      obtain⟨b1,b2,-⟩:=hL
      have hWd:=hWc.trans (hW.mono yb)
      have yc:=hWd.size
      have hown':=b2.own
      clear hW b2 b1 E6 E7 E2 E3 E4 E5 G2 hown hT
      go_wp2_with (at_builtin;refine wpList_append_own _ rfl (.tmp 56) (.tmp 76) 44 rfl w.heap.size 69 i0 (.agg #[.int .i64 0,.int .i64 0,.int .i64 0]) 3 24 (by kernel_rfl) hi hz0 hz1 hz2 rfl (by decide) _ _ _ rfl (hown'.alloc _) ⟨W13.heap.size,0,none⟩ 1 1 [.int .i64 a,.int .i64 (x1-a),.int .i64 ((j-i+1:Nat):Int)] rfl rfl (cell_three_new _ _ _ _ _) (by simp[Value.oneCell']) (by simp[maxLen];omega) (by omega) (by simp;omega) ?_)
      intro v' w1 hown2 hgr _
      have hB:=Hd (below_append hWd yc hown' hgr)
      have hOL:=Hd (show ofL T=(L++ [⟨a,x1-a,((j-i+1:Nat):Int)⟩])++ofL (T.drop (j+1)) by rw[hL.out,of_step ta.out tb.out hij hX.out,List.append_assoc];rfl)
      replace hown2:=Hd hown2
      clear hgr hown' hWd hWc hX
      go_wp2
      rw[show (j:Int)+1=((j+1:Nat):Int) by omega]
      refine⟨?_,by simp[intAt];omega⟩
      unfold ofRel
      exact⟨hB.out,j+1,L++ [⟨a,x1-a,((j-i+1:Nat):Int)⟩],v',frame_ex rfl,⟨by rw[flatCells_snoc];simpa using hown2.out⟩,hOL.out,by omega,by simp;omega⟩
   ·have hl1:i+1=T.length:=by omega
    have hfin:=Hd (of_last ta hl1)
    replace ta:=Hd ta
    have q1:=hT.cellAt ta.out
    go_wp2_with (at_builtin;refine wpList_append_own _ rfl (.tmp 15) (.tmp 21) 44 rfl w.heap.size 69 i0 (.agg #[.int .i64 0,.int .i64 0,.int .i64 0]) 3 24 (by kernel_rfl) hi hz0 hz1 hz2 rfl (by decide) _ _ _ rfl (hown'.alloc _) ⟨W.heap.size,0,none⟩ 1 1 [.int .i64 a,.int .i64 0,.int .i64 1] rfl rfl (cell_three_new _ _ _ _ _) (by simp[Value.oneCell']) (by simp[maxLen];omega) (by omega) (by simp;omega) ?_)
    intro v' w1 hown2 hgr _
    have hB:=Hd (below_append hW0 hz hown' hgr)
    clear hgr hown' hown
    have hOL:=Hd (show ofL T=L++ [⟨a,0,1⟩] by rw[hL.out,hfin.out])
    replace hown2:=Hd hown2
    clear q1
    go_wp2
    go_ret
    exact⟨_,rfl,⟨by rw[hOL.out,flatCells_snoc];simpa using hown2.out⟩,hB.out⟩
  ·obtain rfl:i=T.length:=by omega
   have hOL:=Hd (show ofL T=L by rw[hL.out,List.drop_eq_nil_of_le (Nat.le_refl _),ofL_nil,List.append_nil])
   go_wp2
   go_ret
   exact⟨_,rfl,by rw[hOL.out];exact hown,hW0⟩
attribute [local simp] Oper.looksAt Op.operands Call.operands envOf Det GDet
theorem length_timesG (l:List RunT):(timesG l).length<=256:=by
 unfold timesG
 split
 ·next h=>
  unfold fitL at h
  simp only[Bool.and_eq_true,List.all_eq_true,decide_eq_true_eq] at h
  have:=length_timesL l fun r hr=>by have:=h.1 r hr;unfold fitR at this;simp at this;omega
  omega
 ·simp
theorem length_of (T:List Int):(ofL T).length<=T.length:=by
 have key:∀(n:Nat) (T:List Int),T.length<=n->(ofL T).length<=T.length:=by
  intro n
  induction n with
  |zero=>intro T h;have:T= []:=List.length_eq_zero_iff.1 (by omega);subst this;simp[ofL_nil]
  |succ n ih=>
   intro T h
   match T,h with
   | [],_=>simp[ofL_nil]
   | [t],_=>simp[ofL_one]
   |a::b::l,h=>
    rw[ofL_more]
    have:=ih (l.drop (extn (b-a) b l)) (by simp at h⊢;omega)
    simp at this⊢
    omega
 exact key _ T (Nat.le_refl _)
structure RunsP (w:World) (b o:Nat) (l:List RunT):Prop where
 runs:RunsIn w (some ⟨b,o,none⟩) l
theorem RunsP.below {w w':World} {b o:Nat} {l:List RunT} (h:RunsP w b o l) (hb:Below w.heap.size w w'):RunsP w' b o l:=⟨h.runs.below hb⟩
theorem RunsP.rex {L:List Nat} {w w':World} {b o:Nat} {l:List RunT} (h:RunsP w b o l) (hr:Rex L w w') (hL:L= []):RunsP w' b o l:=by subst hL;exact h.below hr.below
theorem RunsP.drew {w:World} {b o:Nat} {l:List RunT} (h:RunsP w b o l):RunsP w.drew b o l:=⟨⟨h.runs.at'⟩⟩
theorem RunsP.cellAt {w:World} {b o:Nat} {l:List RunT} (h:RunsP w b o l) {i:Nat} {r:RunT} (hx:l[i]? =some r):
  w.cell? ⟨b,o+i*3,none⟩=some (.int .i64 r.f)/\w.cell? ⟨b,o+i*3+1,none⟩=some (.int .i64 r.s)/\w.cell? ⟨b,o+i*3+2,none⟩=some (.int .i64 r.c):=h.runs.cells hx
theorem ite_eq3 {a b c d e f:Int} {w:World}:((if a=b then (if c=d then (if e=f then Result.ok (Go.Next.value (Value.bool false)) w else Result.ok (Go.Next.value (Value.bool true)) w) else Result.ok (Go.Next.value (Value.bool true)) w) else Result.ok (Go.Next.value (Value.bool true)) w):Result Go.Next)=Result.ok (Go.Next.value (Value.bool (!(decide (a=b)&&decide (c=d)&&decide (e=f))))) w:=by
 by_cases h1:a=b<;>by_cases h2:c=d<;>by_cases h3:e=f<;>simp[h1,h2,h3]
def smRel (w:World) (p:Option Addr) (cap:Nat) (p':Option Addr) (cap':Nat) (A B:List RunT) (a':Act) (W:World):Prop:=
 Below w.heap.size w W/\∃(i:Nat),(∃u:Nat->Value,a'= {tmps:= #[.slice p A.length cap,.slice p' A.length cap',u 2,u 3,.bool false,.int .i64 (i:Int),u 6,u 7,u 8,u 9,u 10,u 11,u 12,u 13,u 14,u 15,u 16,u 17,u 18,u 19,u 20,u 21,u 22,u 23,u 24,u 25],defers:= []})/\i<=A.length/\∀k,k<i->A[k]? =B[k]?
theorem refsame_w (p:Option Addr) (cap:Nat) (p':Option Addr) (cap':Nat) (A B:List RunT) (w:World) (hl:A.length=B.length) (hlen:A.length<=1000000) (hA0:RunsIn w p A) (hB0:RunsIn w p' B):
  Cb 113 #[.slice p A.length cap,.slice p' A.length cap'] w (.bool (decide (A=B))):=by
 go_enter Tryz.func113,Tryz.ntmps113
 replace hl:=Hd hl
 go_wp2
 refine wp_loop (smRel w p cap p' cap' A B) (fun a' _=>A.length-(intAt (a'.tmps.getD 5 undef)).toNat) ?_ ?_
 ·unfold smRel
  exact⟨Below.refl _ _,0,frame_ex rfl,by omega,fun k hk=>by omega⟩
 ·rintro a' W ⟨hW0,i,⟨u,rfl⟩,hi',hall⟩
  have hz:=hW0.size
  replace hall:=Hd hall
  rcases Nat.lt_or_ge i A.length with hlt|hge
  ·obtain⟨r,tr⟩:∃r,A[i]? =some r:=⟨A[i]'(by omega),List.getElem?_eq_getElem (by omega)⟩
   obtain⟨q,tq⟩:∃q,B[i]? =some q:=⟨B[i]'(by have:=hl.out;omega),List.getElem?_eq_getElem (by have:=hl.out;omega)⟩
   obtain⟨b,o,rfl,-⟩:=hA0.at' i r tr
   obtain⟨b',o',rfl,-⟩:=hB0.at' i q tq
   have hA:RunsP W b o A:=⟨hA0.below hW0⟩
   have hB:RunsP W b' o' B:=⟨hB0.below hW0⟩
   replace tr:=Hd tr
   replace tq:=Hd tq
   have l1:=hlt
   have l2:i<B.length:=by have:=hl.out;omega
   go_upto_region 6 with(fail)
   refine wp_cutB W (Rc (fun W'=>RunsP W' b o A)<|Rc (fun W'=>RunsP W' b' o' B)<|Bz) ?_ (hI:=by exact belowAny) (hR:=(Rc.mk (by exact hA.below belowAny)<|Rc.mk (by exact hB.below belowAny)<|trivial))
   rintro W1 hW z2 hL
   obtain⟨b1,b2,-⟩:=id hL
   refine wp_regQ 9 26 hW hL ?_
   iterate 9
    apply nd_det (hg:=rfl) (hal:=rfl)
    ·intro a W' hC hE
     obtain⟨_,k1,k2,-⟩:=hC
     obtain⟨q0,q1,q2⟩:=k1.cellAt tr.out;obtain⟨q3,q4,q5⟩:=k2.cellAt tq.out
     first
      |(simp at hE;simp[go_sem,Act.eval,iw,hE,k1,k2,q0,q1,q2,q3,q4,q5,l1,l2,ite_eq3];try rfl)
      |(clear hE;simp[go_sem,Act.eval,iw,k1,k2,q0,q1,q2,q3,q4,q5,l1,l2,ite_eq3];try rfl)
   clear hW hL b1 b2
   rintro W3 hW z4 hL
   simp only[ndR]
   intros
   simp only[ndS]
   refine wpList_nil ?_
   obtain⟨b1,b2,-⟩:=hL
   by_cases hrq:r=q
   ·have hall':=Hd (show∀k,k<i+1->A[k]? =B[k]? from fun k hk=>by
     rcases Nat.lt_or_ge k i with h|h
     ·exact hall.out k h
     ·obtain rfl:k=i:=by omega
      rw[tr.out,tq.out,hrq])
    rw[show (!decide (r.f=q.f)|| !decide (r.s=q.s)|| !decide (r.c=q.c))=false by subst hrq;simp]
    clear hrq
    go_wp2
    rw[show (i:Int)+1=((i+1:Nat):Int) by omega]
    refine⟨?_,by simp[intAt];omega⟩
    unfold smRel
    exact⟨hW0.trans (hW.mono hz),i+1,frame_ex rfl,by omega,hall'.out⟩
   ·have hne:=Hd (show decide (A=B)=false by
     rw[decide_eq_false_iff_not]
     rintro rfl
     rw[tr.out] at tq
     exact hrq (Option.some.inj tq.out))
    rw[show (!decide (r.f=q.f)|| !decide (r.s=q.s)|| !decide (r.c=q.c))=true by
     obtain⟨r1,r2,r3⟩:=r
     obtain⟨q1,q2,q3⟩:=q
     simp at hrq
     simp
     by_cases h1:r1=q1<;>by_cases h2:r2=q2<;>simp[h1,h2] at hrq⊢
     exact hrq]
    clear hrq
    go_wp2
    go_ret
    exact⟨by rw[hne.out];rfl,hW0.trans (hW.mono hz)⟩
  ·obtain rfl:i=A.length:=by omega
   have heq:=Hd (show decide (A=B)=true by
    rw[decide_eq_true_eq]
    apply List.ext_getElem?
    intro k
    rcases Nat.lt_or_ge k A.length with h|h
    ·exact hall.out k h
    ·rw[List.getElem?_eq_none h,List.getElem?_eq_none (by have:=hl.out;omega)])
   go_wp2
   go_ret
   exact⟨by rw[heq.out];rfl,hW0⟩
theorem refsame_len (p:Option Addr) (n cap:Nat) (p':Option Addr) (m cap':Nat) (w:World) (hl:¬n=m):
  Cb 113 #[.slice p n cap,.slice p' m cap'] w (.bool false):=by
 go_enter Tryz.func113,Tryz.ntmps113
 go_wp2
 go_ret
 exact⟨rfl,Below.refl _ _⟩
theorem c_refsame (p:Option Addr) (cap:Nat) (p':Option Addr) (cap':Nat) (A B:List RunT) (w:World) (hlen:A.length<=1000000) (hA0:RunsIn w p A) (hB0:RunsIn w p' B):
  Cb 113 #[.slice p A.length cap,.slice p' B.length cap'] w (.bool (decide (A=B))):=by
 by_cases h:A.length=B.length
 ·rw[<-h];exact refsame_w p cap p' cap' A B w h hlen hA0 hB0
 ·rw[show decide (A=B)=false by rw[decide_eq_false_iff_not];rintro rfl;exact h rfl]
  exact refsame_len p _ cap p' _ cap' w h
theorem refright_no (p:Option Addr) (cap:Nat) (l:List RunT) (w:World) (hlen:l.length<=1000) (h:RunsIn w p l) (hb:risingB (timesG l)=false):
  Cb 114 #[.slice p l.length cap] w (.bool false):=by
 have ct:=Hd (fun W (hW:Below w.heap.size w W)=>reftimes_w p cap l W (h.below hW) hlen)
 have hTl:=length_timesG l
 obtain⟨T,hT⟩:∃T,T=timesG l:=⟨_,rfl⟩
 rw[<-hT] at ct hb hTl
 clear hT
 replace hTl:=Hd hTl
 replace hb:=Hd hb
 go_enter Tryz.func114,Tryz.ntmps114
 go_wp2_with fail
 refine(ct.out _ belowAny).mono ?_
 rintro e w1 ⟨v,rfl,hown,hB1⟩
 have hz1:=hB1.size
 obtain⟨pt,cp,rfl,-,-,-,-⟩:=hown.form
 have hI:=hown.ints
 clear hown ct
 have cr:=c_refrising pt cp T w1 (by exact Nat.le_trans hTl.out (by omega)) hI
 rw[hb.out] at cr
 replace cr:=Hd cr
 go_wp2_with fail
 refine cr.out.mono ?_
 rintro e w2 ⟨rfl,hB2⟩
 have hz2:=hB2.size
 clear cr
 go_wp2
 go_ret
 exact⟨rfl,hB1.trans (hB2.mono hz1)⟩
theorem refright_yes (p:Option Addr) (cap:Nat) (l:List RunT) (w:World) (hlen:l.length<=1000) (h:RunsIn w p l) (hb:risingB (timesG l)=true) (T:List Int) (hT:T=timesG l):
  Cb 114 #[.slice p l.length cap] w (.bool (decide (ofL T=l))):=by
 have ct:=Hd (fun W (hW:Below w.heap.size w W)=>hT▸reftimes_w p cap l W (h.below hW) hlen)
 obtain⟨hl1,hl2,hris⟩:=(risingB_iff T).1 (hT▸hb)
 rw[<-hT] at hb
 clear hT
 replace hris:=Hd hris
 replace hb:=Hd hb
 go_enter Tryz.func114,Tryz.ntmps114
 go_wp2_with fail
 refine(ct.out _ belowAny).mono ?_
 rintro e w1 ⟨v,rfl,hown,hB1⟩
 have hz1:=hB1.size
 obtain⟨pt,cp,rfl,-,-,-,-⟩:=hown.form
 have hI:=hown.ints
 clear hown ct
 have cr:=c_refrising pt cp T w1 (by omega) hI
 rw[hb.out] at cr
 replace cr:=Hd cr
 go_wp2_with fail
 refine cr.out.mono ?_
 rintro e w2 ⟨rfl,hB2⟩
 have hz2:=hB2.size
 clear cr
 obtain⟨b,o,rfl⟩:∃b o,pt=some ⟨b,o,none⟩:=by
  obtain⟨b,o,e,_⟩:=hI.at' 0 _ (List.getElem?_eq_getElem (show 0<T.length by omega))
  exact⟨b,o,e⟩
 have co:=Hd (refof_w b o cp T w2 hl2 hris.out ⟨hI.below hB2⟩)
 go_wp2_with fail
 refine co.out.mono ?_
 rintro e w3 ⟨v,rfl,hown,hB3⟩
 have hz3:=hB3.size
 obtain⟨po,cq,rfl,-,-,-,-⟩:=hown.form
 have hR:=hown.runs
 clear hown co
 have hW:=hB1.trans ((hB2.trans (hB3.mono hz2)).mono hz1)
 have hOl:=length_of T
 have cs:=Hd (c_refsame po cq p cap (ofL T) l w3 (by omega) hR (h.below hW))
 clear hOl
 go_wp2_with fail
 refine cs.out.mono ?_
 rintro e w4 ⟨rfl,hB4⟩
 have hz4:=hW.size
 clear cs
 go_wp2
 go_ret
 exact⟨rfl,hW.trans (hB4.mono hz4)⟩
theorem c_refright (p:Option Addr) (cap:Nat) (l:List RunT) (w:World) (hlen:l.length<=1000) (h:RunsIn w p l):
  Cb 114 #[.slice p l.length cap] w (.bool (risesB l)):=by
 rw[<-rightR_is]
 unfold rightR
 cases hb:risingB (timesG l) with
 |false=>rw[Bool.false_and];exact refright_no p cap l w hlen h hb
 |true=>rw[Bool.true_and];exact refright_yes p cap l w hlen h hb _ rfl
end Go.Proofs.YtpdhdjlhicceoaaGreatDoor
namespace Go.Proofs.YtpdhdjlhicceoaaGreatDoor
open Go.RowKit
def ptRel (w1:World) (g bt ot ct:Nat) (T V:List Int) (a':Act) (W:World):Prop:=
 Below w1.heap.size w1 W/\∃(i:Nat) (v:Value),(∃u:Nat->Value,a'= {tmps:= #[u 0,.pointer (some ⟨g,0,none⟩),.slice none 0 0,.bool false,.slice (some ⟨bt,ot,none⟩) T.length ct,v,.int .i64 (i:Int),u 7,u 8,u 9,u 10,u 11,u 12,u 13,u 14,u 15,u 16,u 17,u 18,u 19,u 20,u 21,u 22,u 23,u 24,u 25,u 26,u 27,u 28,u 29,u 30,u 31,u 32,u 33,u 34,u 35,u 36,u 37,u 38,u 39,u 40,u 41,u 42,u 43,u 44,u 45,u 46,u 47,u 48,u 49,u 50,u 51,u 52,u 53,u 54,u 55,u 56,u 57,u 58,u 59],defers:= []})/\
  OwnR W w1.heap.size 53 2 v i (flatPts ((T.zip V).take i))/\i<=T.length/\∀(k:Nat) (y:Int),k<i->V[k]? =some y->isBack y=true
def PtsPost (w:World) (T V:List Int) (e:Ending) (w':World):Prop:=
 Below w.heap.size w w'/\((V.all isBack=true/\∃v,e= .returned (.tuple #[v,.bool true])/\OwnR w' w.heap.size 53 2 v T.length (flatPts (T.zip V)))∨(V.all isBack=false/\e= .returned (.tuple #[.slice none 0 0,.bool false])))
theorem ownsRow_setCell_new {w:World} {B:Nat} {e:TypeId} {s n g:Nat} {v:Value} {xs:List Value} (h:w.ownsRow B e s v n xs) (hg:∀k,v.ownBlock=some k->k≠g) (i:Nat) (u:Value):(w.setCell ⟨g,i,none⟩ u).ownsRow B e s v n xs:=by
 obtain⟨h1,h2⟩:=h
 refine⟨h1,?_⟩
 rcases h2 with h2|⟨k,cap,cur,hv,hk,hh,rest⟩
 ·exact .inl h2
 ·refine .inr ⟨k,cap,cur,hv,hk,?_,rest⟩
  have hne:k≠g:=hg k (by rw[hv];rfl)
  exact(heap_setCell_other w ⟨g,i,none⟩ k u hne).trans hh
theorem zip_take {T V:List Int} {i:Nat} {x y:Int} (hx:T[i]? =some x) (hy:V[i]? =some y):(T.zip V).take (i+1)=(T.zip V).take i++ [(x,y)]:=by
 have h:(T.zip V)[i]? =some (x,y):=by rw[List.getElem?_zip_eq_some];exact⟨hx,hy⟩
 rw[List.take_add_one,h];rfl
theorem not_all {V:List Int} {i:Nat} {y:Int} (hy:V[i]? =some y) (hb:isBack y=false):V.all isBack=false:=by
 cases h:V.all isBack with
 |false=>rfl
 |true=>rw[List.all_eq_true.1 h y (List.mem_of_getElem? hy)] at hb;cases hb
theorem yes_all {V:List Int} {n:Nat} (hn:V.length<=n) (h:∀(k:Nat) (y:Int),k<n->V[k]? =some y->isBack y=true):V.all isBack=true:=by
 rw[List.all_eq_true]
 intro y hy
 obtain⟨k,hk⟩:=List.getElem?_of_mem hy
 exact h k y (by have:=(List.getElem?_eq_some_iff.1 hk).1;omega) hk
theorem pts_raw (A R n d E:Int) (p:Option Addr) (len cap b o vc:Nat) (T V:List Int) (w:World) (hV0:IntsP w b o V) (hTV:V.length=T.length) (h0:1<=T.length) (h256:T.length<=256)
  (c1:∀W,Below w.heap.size w W->Calls Tryz.prog 86 #[.slice p len cap] W fun e w'=>∃v,e= .returned v/\OwnR w' W.heap.size 2 1 v T.length (T.map (Value.int .i64))/\Below W.heap.size W w'):
  Calls Tryz.prog 117 #[.agg #[.int .i64 4,.slice p len cap,.int .i64 A,.int .i64 R,.int .i64 n,.int .i64 d,.slice (some ⟨b,o,none⟩) V.length vc,.int .i64 E]] w (PtsPost w T V):=by
 obtain⟨i0,hi,hz0,hz1,hz2⟩:=info_parts Tryz.infoPoint
 replace hTV:=Hd hTV
 have H_c1:=Hd c1
 clear c1
 go_enter Tryz.func117,Tryz.ntmps117
 go_wp2_with fail
 refine(H_c1.out _ belowAny).mono ?_
 rintro e w1 ⟨v0,rfl,hT0,hb1⟩
 have z2:=hb1.size
 try simp at z2
 refine haveB w w1 (Bc w.heap.size #[.int .i64 4,.slice p len cap,.int .i64 A,.int .i64 R,.int .i64 n,.int .i64 d,.slice (some ⟨b,o,none⟩) V.length vc,.int .i64 E] 49<|Bz) ?_
 rintro hW z3 ⟨⟨b1,yb1,k1,f1⟩,-⟩
 obtain⟨pt,ct,rfl,-,-,-,-⟩:=hT0.form
 have hI:=hT0.ints
 clear hT0
 obtain⟨bt,ot,rfl⟩:∃b o,pt=some ⟨b,o,none⟩:=by
  obtain⟨b,o,e,_⟩:=hI.at' 0 _ (List.getElem?_eq_getElem (show 0<T.length by omega))
  exact⟨b,o,e⟩
 have hT1:IntsP w1 bt ot T:=⟨hI⟩
 have hWW:=hW
 have hV1:=hV0.below hW
 clear hI
 go_wp2
 refine wp_loop (ptRel w1 w.heap.size bt ot ct T V) (fun a' _=>T.length-(intAt (a'.tmps.getD 6 undef)).toNat) ?_ ?_
 ·unfold ptRel
  exact⟨Below.refl _ _,0,_,frame_ex rfl,OwnR.nil _ _ _ _,by omega,fun k y hk=>by omega⟩
 ·rintro a' W ⟨hW0,i,v,⟨u,rfl⟩,hown,hi',hall⟩
  have hz:=hW0.size
  have hT:=hT1.below hW0
  have hV:=hV1.below hW0
  have b1:=b1.below hW0
  have zb:=b1.lt
  replace hall:=Hd hall
  rcases Nat.lt_or_ge i T.length with hlt|hge
  ·obtain⟨x,tx⟩:∃x,T[i]? =some x:=⟨T[i]'(by omega),List.getElem?_eq_getElem (by omega)⟩
   obtain⟨y,ty⟩:∃y,V[i]? =some y:=⟨V[i]'(by have:=hTV.out;omega),List.getElem?_eq_getElem (by have:=hTV.out;omega)⟩
   replace tx:=Hd tx
   replace ty:=Hd ty
   have l2:i<V.length:=by have:=hTV.out;omega
   cases hbk:isBack y with
   |false=>
    replace hbk:=Hd hbk
    have k1:=b1.cell
    have f1:=b1.frozen
    have q1:=hT.cellAt tx.out
    have q2:=hV.cellAt ty.out
    have zv:=cell_lt q2
    have zt:=cell_lt q1
    try simp at zv
    try simp at zt
    have cb:=c_rback y
    rw[hbk.out] at cb
    replace cb:=Hd cb
    go_wp2_with fail
    refine(cb.out _).mono ?_
    rintro e w21 ⟨rfl,hb21⟩
    have z22:=hb21.size
    try simp at z22
    clear k1 f1
    refine haveB W w21 (Bc w.heap.size #[.int .i64 4,.slice p len cap,.int .i64 A,.int .i64 R,.int .i64 n,.int .i64 d,.slice (some ⟨b,o,none⟩) V.length vc,.int .i64 E] 49<|Bc W.heap.size #[.int .i64 x,.int .i64 y] 53<|Bz) ?_
    clear b1
    rintro hW z23 ⟨⟨b1,yb1,k1,f1⟩,⟨b2,yb2,k2,f2⟩,-⟩
    clear hb21
    go_wp2
    go_ret2
    exact⟨hWW.trans (((hW0.trans (hW.mono hz))).mono hWW.size),.inr ⟨not_all ty.out hbk.out,rfl⟩⟩
   |true=>
    replace hbk:=Hd hbk
    have k1:=b1.cell
    have f1:=b1.frozen
    have q1:=hT.cellAt tx.out
    have q2:=hV.cellAt ty.out
    have zv:=cell_lt q2
    have zt:=cell_lt q1
    try simp at zv
    try simp at zt
    have cb:=c_rback y
    rw[hbk.out] at cb
    replace cb:=Hd cb
    go_wp2_with fail
    refine(cb.out _).mono ?_
    rintro e w21 ⟨rfl,hb21⟩
    have z22:=hb21.size
    try simp at z22
    clear k1 f1
    refine haveB W w21 (Bc w.heap.size #[.int .i64 4,.slice p len cap,.int .i64 A,.int .i64 R,.int .i64 n,.int .i64 d,.slice (some ⟨b,o,none⟩) V.length vc,.int .i64 E] 49<|Bc W.heap.size #[.int .i64 x,.int .i64 y] 53<|Bz) ?_
    clear b1
    rintro hW z23 ⟨⟨b1,yb1,k1,f1⟩,⟨b2,yb2,k2,f2⟩,-⟩
    clear hb21
    have hown':=(hown.below hW).own
    have hW9:=hW0.trans (hW.mono hz)
    have ya9:=hW9.size
    clear cb hown hW
    go_wp2_with (at_builtin;refine wpList_append_own _ rfl (.tmp 55) (.tmp 57) 24 rfl w1.heap.size 53 i0 (.agg #[.int .i64 0,.int .i64 0]) 2 16 (by kernel_rfl) hi hz0 hz1 hz2 rfl (by decide) _ _ _ rfl (hown'.alloc _) ⟨w21.heap.size,0,none⟩ 1 1 [.int .i64 x,.int .i64 y] rfl rfl (cell_two_new _ _ _ _) (by simp[Value.oneCell']) (by simp[maxLen];omega) (by omega) (by simp;omega) ?_)
    intro v' w9 hown2 hgr _
    have hB:=Hd (below_append hW9 ya9 hown' hgr)
    replace hown2:=Hd hown2
    have hall':=Hd (show∀k y,k<i+1->V[k]? =some y->isBack y=true from fun k z hk hz=>by
     rcases Nat.lt_or_ge k i with h|h
     ·exact hall.out k z h hz
     ·obtain rfl:k=i:=by omega
      rw[ty.out] at hz
      injection hz with hz
      rw[<-hz];exact hbk.out)
    clear hgr hown'
    go_wp2
    rw[show (i:Int)+1=((i+1:Nat):Int) by omega]
    refine⟨?_,by simp[intAt];omega⟩
    unfold ptRel
    exact⟨hB.out,i+1,v',frame_ex rfl,⟨by rw[zip_take tx.out ty.out,flatPts_snoc];simpa using hown2.out⟩,by omega,hall'.out⟩
  ·obtain rfl:i=T.length:=by omega
   have hya:=Hd (yes_all (by have:=hTV.out;omega) hall.out)
   have htk:=Hd (show (T.zip V).take T.length=T.zip V from List.take_of_length_le (by rw[List.length_zip];exact Nat.min_le_left _ _))
   go_wp2
   go_ret2
   exact⟨hWW.trans (hW0.mono hWW.size),.inl ⟨hya.out,_,rfl,by have:=hown.mono hWW.size;rw[htk.out] at this;exact this⟩⟩
theorem pts_line (K A R n d E x0:Int) (p q:Option Addr) (len cap m vc:Nat) (T V:List Int) (w:World) (hK:(K==4)=false) (hTV:V.length=T.length) (h0:1<=T.length) (h256:T.length<=256) (t0:T[0]? =some x0) (hbd:∀x,x∈T->0<=x/\x<=281474976710656)
  (c1:∀W,Below w.heap.size w W->Calls Tryz.prog 86 #[.slice p len cap] W fun e w'=>∃v,e= .returned v/\OwnR w' W.heap.size 2 1 v T.length (T.map (Value.int .i64))/\Below W.heap.size W w')
  (c2:∀W (i:Nat) x y,T[i]? =some x->V[i]? =some y->isBack y=true->Cb 150 #[.agg #[.int .i64 A,.int .i64 R,.int .i64 n,.int .i64 d],.int .i64 (x-x0)] W (.tuple #[.int .i64 y,.bool true]))
  (c3:∀W (i:Nat) x y,T[i]? =some x->V[i]? =some y->isBack y=false->Cb 150 #[.agg #[.int .i64 A,.int .i64 R,.int .i64 n,.int .i64 d],.int .i64 (x-x0)] W (.tuple #[.int .i64 0,.bool false])):
  Calls Tryz.prog 117 #[.agg #[.int .i64 K,.slice p len cap,.int .i64 A,.int .i64 R,.int .i64 n,.int .i64 d,.slice q m vc,.int .i64 E]] w (PtsPost w T V):=by
 obtain⟨i0,hi,hz0,hz1,hz2⟩:=info_parts Tryz.infoPoint
 replace hTV:=Hd hTV
 have bx0:=hbd x0 (List.mem_of_getElem? t0)
 replace hbd:=Hd hbd
 replace t0:=Hd t0
 replace c2:=Hd c2
 replace c3:=Hd c3
 have H_c1:=Hd c1
 clear c1
 go_enter Tryz.func117,Tryz.ntmps117
 go_wp2_with fail
 refine(H_c1.out _ belowAny).mono ?_
 rintro e w1 ⟨v0,rfl,hT0,hb1⟩
 have z2:=hb1.size
 try simp at z2
 refine haveB w w1 (Bc w.heap.size #[.int .i64 K,.slice p len cap,.int .i64 A,.int .i64 R,.int .i64 n,.int .i64 d,.slice q m vc,.int .i64 E] 49<|Bz) ?_
 rintro hW z3 ⟨⟨b1,yb1,k1,f1⟩,-⟩
 obtain⟨pt,ct,rfl,-,-,-,-⟩:=hT0.form
 have hI:=hT0.ints
 clear hT0
 obtain⟨bt,ot,rfl⟩:∃b o,pt=some ⟨b,o,none⟩:=by
  obtain⟨b,o,e,_⟩:=hI.at' 0 _ (List.getElem?_eq_getElem (show 0<T.length by omega))
  exact⟨b,o,e⟩
 have hT1:IntsP w1 bt ot T:=⟨hI⟩
 have hWW:=hW
 clear hI
 go_wp2
 refine wp_loop (ptRel w1 w.heap.size bt ot ct T V) (fun a' _=>T.length-(intAt (a'.tmps.getD 6 undef)).toNat) ?_ ?_
 ·unfold ptRel
  exact⟨Below.refl _ _,0,_,frame_ex rfl,OwnR.nil _ _ _ _,by omega,fun k y hk=>by omega⟩
 ·rintro a' W ⟨hW0,i,v,⟨u,rfl⟩,hown,hi',hall⟩
  have hz:=hW0.size
  have hT:=hT1.below hW0
  have b1:=b1.below hW0
  have zb:=b1.lt
  replace hall:=Hd hall
  rcases Nat.lt_or_ge i T.length with hlt|hge
  ·obtain⟨x,tx⟩:∃x,T[i]? =some x:=⟨T[i]'(by omega),List.getElem?_eq_getElem (by omega)⟩
   obtain⟨y,ty⟩:∃y,V[i]? =some y:=⟨V[i]'(by have:=hTV.out;omega),List.getElem?_eq_getElem (by have:=hTV.out;omega)⟩
   have bx:=hbd.out x (List.mem_of_getElem? tx)
   replace tx:=Hd tx
   replace ty:=Hd ty
   have l1:=hlt
   have l2:0<T.length:=h0
   cases hbk:isBack y with
   |false=>
    have cb:=Hd (fun W=>c3.out W i x y tx.out ty.out hbk)
    replace hbk:=Hd hbk
    have k1:=b1.cell
    have f1:=b1.frozen
    have q1:=hT.cellAt tx.out
    have zt:=cell_lt q1
    try simp at zt
    have E1:=Hd (show wrap64 (x-x0)=x-x0 by rw[wrap64_eq];omega)
    have hown7:=Hd hown
    clear hown
    go_upto_region 11 with(fail)
    clear k1 f1
    refine wp_cutB W (Bc w.heap.size #[.int .i64 K,.slice p len cap,.int .i64 A,.int .i64 R,.int .i64 n,.int .i64 d,.slice q m vc,.int .i64 E] 49<|Bc W.heap.size #[.int .i64 x,.int .i64 0] 53<|Rc (fun W'=>IntsP W' bt ot T)<|Bz) ?_ (hI:=by exact belowAny) (hR:=(Bc.mk (by exact blkAny2)<|Bc.mk (by exact blkAny2)<|Rc.mk (by exact hT.below belowAny)<|trivial))
    clear b1
    rintro W21 hW z22 hL
    obtain⟨⟨b1,yb1,k1,f1⟩,⟨b2,yb2,k2,f2⟩,b3,-⟩:=id hL
    clear k1 f1 k2 f2
    refine wp_regQ 16 60 hW hL ?_
    iterate 10 refine dE (fun W' hC=>aI (hC.2.2.2.1.cellAt tx.out) (aI (hC.2.2.2.1.cellAt t0.out) (aI l1 (aI l2 E1.out)))) ?_
    refine cE (fun W' hC=>aI (hC.2.2.2.1.cellAt tx.out) (aI (hC.2.2.2.1.cellAt t0.out) (aI l1 (aI l2 E1.out)))) (fun W' hC=>cb.out W') ?_
    iterate 5 refine dE (fun W' hC=>aI (hC.2.2.2.1.cellAt tx.out) (aI (hC.2.2.2.1.cellAt t0.out) (aI l1 (aI l2 E1.out)))) ?_
    clear hW hL b1 b2 b3
    rintro W23 hW z24 hL
    simp only[ndR]
    intros
    simp only[ndS]
    refine wpList_nil ?_
    obtain⟨⟨b1,yb1,k1,f1⟩,⟨b2,yb2,k2,f2⟩,b3,-⟩:=hL
    go_wp2
    go_ret2
    exact⟨hWW.trans (((hW0.trans (hW.mono hz))).mono hWW.size),.inr ⟨not_all ty.out hbk.out,rfl⟩⟩
   |true=>
    have cb:=Hd (fun W=>c2.out W i x y tx.out ty.out hbk)
    replace hbk:=Hd hbk
    have k1:=b1.cell
    have f1:=b1.frozen
    have q1:=hT.cellAt tx.out
    have zt:=cell_lt q1
    try simp at zt
    have E1:=Hd (show wrap64 (x-x0)=x-x0 by rw[wrap64_eq];omega)
    have hown7:=Hd hown
    clear hown
    go_upto_region 11 with(fail)
    clear k1 f1
    refine wp_cutB W (Bc w.heap.size #[.int .i64 K,.slice p len cap,.int .i64 A,.int .i64 R,.int .i64 n,.int .i64 d,.slice q m vc,.int .i64 E] 49<|Bc W.heap.size #[.int .i64 x,.int .i64 0] 53<|Rc (fun W'=>IntsP W' bt ot T)<|Bz) ?_ (hI:=by exact belowAny) (hR:=(Bc.mk (by exact blkAny2)<|Bc.mk (by exact blkAny2)<|Rc.mk (by exact hT.below belowAny)<|trivial))
    clear b1
    rintro W21 hW z22 hL
    obtain⟨⟨b1,yb1,k1,f1⟩,⟨b2,yb2,k2,f2⟩,b3,-⟩:=id hL
    clear k1 f1 k2 f2
    refine wp_regQ 16 60 hW hL ?_
    iterate 10 refine dE (fun W' hC=>aI (hC.2.2.2.1.cellAt tx.out) (aI (hC.2.2.2.1.cellAt t0.out) (aI l1 (aI l2 E1.out)))) ?_
    refine cE (fun W' hC=>aI (hC.2.2.2.1.cellAt tx.out) (aI (hC.2.2.2.1.cellAt t0.out) (aI l1 (aI l2 E1.out)))) (fun W' hC=>cb.out W') ?_
    iterate 5 refine dE (fun W' hC=>aI (hC.2.2.2.1.cellAt tx.out) (aI (hC.2.2.2.1.cellAt t0.out) (aI l1 (aI l2 E1.out)))) ?_
    clear hW hL b1 b2 b3
    rintro W23 hW z24 hL
    simp only[ndR]
    intros
    simp only[ndS]
    refine wpList_nil ?_
    obtain⟨⟨b1,yb1,k1,f1⟩,⟨b2,yb2,k2,f2⟩,b3,-⟩:=hL
    have z97:=b1.lt
    have z98:=b2.lt
    have hown':=(hown7.out.below hW).own
    have hne9:=Hd (show∀k,v.ownBlock=some k->k≠W.heap.size from fun k hk=>by have:=(hown7.out.own.lt k hk).2;omega)
    clear cb b3
    go_upto_region 15 with(fail)
    clear k1 f1 k2 f2
    refine wp_cutB W (Bc W.heap.size #[.int .i64 x,.int .i64 y] 53<|Rc (fun W'=>OwnR W' w1.heap.size 53 2 v i (flatPts ((T.zip V).take i)))<|Bz) ?_ (hI:=by exact belowAny) (hR:=(Bc.mk (by exact blkAny2)<|Rc.mk (by exact⟨ownsRow_setCell_new hown' hne9.out 1 (.int .i64 y)⟩)<|trivial))
    clear b1 b2 hW
    rintro W25 hW z26 ⟨⟨b1,yb1,k1,f1⟩,b2,-⟩
    have hown9:=b2.own
    have hW9:=hW0.trans (hW.mono hz)
    have ya9:=hW9.size
    clear hW hown' b2
    go_wp2_with (at_builtin;refine wpList_append_own _ rfl (.tmp 55) (.tmp 57) 24 rfl w1.heap.size 53 i0 (.agg #[.int .i64 0,.int .i64 0]) 2 16 (by kernel_rfl) hi hz0 hz1 hz2 rfl (by decide) _ _ _ rfl (hown9.alloc _) ⟨W25.heap.size,0,none⟩ 1 1 [.int .i64 x,.int .i64 y] rfl rfl (cell_two_new _ _ _ _) (by simp[Value.oneCell']) (by simp[maxLen];omega) (by omega) (by simp;omega) ?_)
    intro v' w9 hown2 hgr _
    have hB:=Hd (below_append hW9 ya9 hown9 hgr)
    replace hown2:=Hd hown2
    have hall':=Hd (show∀k y,k<i+1->V[k]? =some y->isBack y=true from fun k z hk hz=>by
     rcases Nat.lt_or_ge k i with h|h
     ·exact hall.out k z h hz
     ·obtain rfl:k=i:=by omega
      rw[ty.out] at hz
      injection hz with hz
      rw[<-hz];exact hbk.out)
    clear hgr hown9
    go_wp2
    rw[show (i:Int)+1=((i+1:Nat):Int) by omega]
    refine⟨?_,by simp[intAt];omega⟩
    unfold ptRel
    exact⟨hB.out,i+1,v',frame_ex rfl,⟨by rw[zip_take tx.out ty.out,flatPts_snoc];simpa using hown2.out⟩,by omega,hall'.out⟩
  ·obtain rfl:i=T.length:=by omega
   have hya:=Hd (yes_all (by have:=hTV.out;omega) hall.out)
   have htk:=Hd (show (T.zip V).take T.length=T.zip V from List.take_of_length_le (by rw[List.length_zip];exact Nat.min_le_left _ _))
   go_wp2
   go_ret2
   exact⟨hWW.trans (hW0.mono hWW.size),.inl ⟨hya.out,_,rfl,by have:=hown.mono hWW.size;rw[htk.out] at this;exact this⟩⟩
attribute [local simp] Oper.looksAt Op.operands Call.operands envOf Det GDet
theorem ite_z4 {A R n d:Int} {w:World}:((if A=0 then (if R=0 then (if n=0 then (if d=0 then Result.ok (Go.Next.value (Value.bool false)) w else Result.ok (Go.Next.value (Value.bool true)) w) else Result.ok (Go.Next.value (Value.bool true)) w) else Result.ok (Go.Next.value (Value.bool true)) w) else Result.ok (Go.Next.value (Value.bool true)) w):Result Go.Next)=Result.ok (Go.Next.value (Value.bool (!(lineZ A R n d)))) w:=by
 unfold lineZ
 by_cases h1:A=0<;>by_cases h2:R=0<;>by_cases h3:n=0<;>by_cases h4:d=0<;>simp[h1,h2,h3,h4]
theorem nd_on {P:Program} {ops:Array Oper} {C:World->Prop} {X:List (Nat×Nat)} {a0:Act} {Fin:List (Option Tmp×Spec)->Prop} {i:Nat} {o:Oper} {rest:List Oper} {acc:List (Option Tmp×Spec)}
  (Φ:Spec) (want:Bool) (k:Nat) (d:Tmp) (hcl:Closed (others X i) Φ) (hg:o.guard=some (k,want)) (hd:wrOf ops k=some d) (hx:∀v w,envOf a0 acc d v w->v= .bool want)
  (h:∀(a:Act) (w:World),C w->(∀s∈o.looksAt ops,envOf a0 acc s (a.tmps.getD s undef) w)->runND P o (priv X i) Φ w ((execOp a.eval o).run P w))
  (hr:ndWalk P ops C X a0 Fin (i+1) rest ((o.dst,Φ)::acc)):ndWalk P ops C X a0 Fin i (o::rest) acc:=by
 refine⟨Φ,hcl,fun a w hC hE=> ?_,hr⟩
 have hin:d∈o.looksAt ops:=by
  unfold wrOf at hd
  simp[Oper.looksAt,hg,hd]
 have hv:=hx _ _ (hE d hin)
 have hw:=wanted_some (o:=o) hg hd hv
 refine⟨fun _=>h a w hC hE,fun e=> ?_⟩
 rw[hw] at e
 simp at e
theorem nd_oncall {P:Program} {ops:Array Oper} {C:World->Prop} {X:List (Nat×Nat)} {a0:Act} {Fin:List (Option Tmp×Spec)->Prop} {i:Nat} {o:Oper} {rest:List Oper} {acc:List (Option Tmp×Spec)}
  (Φ:Spec) {want:Bool} {k:Nat} {d:Tmp} (hcl:Closed (others X i) Φ) (hg:o.guard=some (k,want)) (hd:wrOf ops k=some d) (hal:isAlloc o=false) (hx:∀v w,envOf a0 acc d v w->v= .bool want)
  (h:∀(a:Act) (w:World),C w->(∀s∈o.looksAt ops,envOf a0 acc s (a.tmps.getD s undef) w)->∃f args,(execOp a.eval o).run P w= .ok (.enter f args) w/\Calls P f args w fun e w'=>∃u,e= .returned u/\Below w.heap.size w w'/\Φ u w')
  (hr:ndWalk P ops C X a0 Fin (i+1) rest ((o.dst,Φ)::acc)):ndWalk P ops C X a0 Fin i (o::rest) acc:=
 nd_on Φ want k d hcl hg hd hx (fun a w hC hE=>by
  obtain⟨f,args,h1,h2⟩:=h a w hC hE
  rw[h1]
  exact⟨rfl,hal,h2.mono fun e w' ⟨u,he,hb,hΦ⟩=>⟨u,he,Rex.of_below hb,hΦ⟩⟩) hr
theorem nd_onval {P:Program} {ops:Array Oper} {C:World->Prop} {X:List (Nat×Nat)} {a0:Act} {Fin:List (Option Tmp×Spec)->Prop} {i:Nat} {o:Oper} {rest:List Oper} {acc:List (Option Tmp×Spec)}
  (Φ:Spec) {want:Bool} {k:Nat} {d:Tmp} (hcl:Closed (others X i) Φ) (hg:o.guard=some (k,want)) (hd:wrOf ops k=some d) (hal:isAlloc o=false) (hx:∀v w,envOf a0 acc d v w->v= .bool want)
  (h:∀(a:Act) (w:World),C w->(∀s∈o.looksAt ops,envOf a0 acc s (a.tmps.getD s undef) w)->∃v,(execOp a.eval o).run P w= .ok (.value v) w/\Φ v w)
  (hr:ndWalk P ops C X a0 Fin (i+1) rest ((o.dst,Φ)::acc)):ndWalk P ops C X a0 Fin i (o::rest) acc:=
 nd_on Φ want k d hcl hg hd hx (fun a w hC hE=>by
  obtain⟨v,h1,h2⟩:=h a w hC hE
  rw[h1]
  exact⟨Rex.refl _ _,h2,fun e=>by rw[hal] at e;cases e⟩) hr
def OV (B:Nat) (T:List Int):Spec:=fun v w=>OwnR w B 2 1 v T.length (T.map (Value.int .i64))
theorem OV.closed (B:Nat) (T:List Int):Closed [] (OV B T):=fun _ _ _ hr h=>OwnR.rex h hr rfl
def kindR (R n:Int):Int:=if n=0 then 1 else if R=0 then 2 else 3
theorem c_rkind (A R n d:Int) (w:World):Cb 116 #[.agg #[.int .i64 A,.int .i64 R,.int .i64 n,.int .i64 d]] w (.int .i64 (kindR R n)):=by
 unfold kindR
 go_enter Tryz.func116,Tryz.ntmps116
 by_cases h1:n=0
 ·subst h1
  rw[if_pos rfl]
  go_wp2
  go_ret
  exact⟨rfl,belowAny⟩
 ·rw[if_neg h1]
  have h1':(n==0)=false:=by simp[h1]
  by_cases h2:R=0
  ·subst h2
   rw[if_pos rfl]
   go_wp2
   go_ret
   exact⟨rfl,belowAny⟩
  ·rw[if_neg h2]
   have h2':(R==0)=false:=by simp[h2]
   go_wp2
   go_ret
   exact⟨rfl,belowAny⟩
theorem rr_no1 (K A R n d E:Int) (p q:Option Addr) (len cap m vc:Nat) (w:World) (c1:∀W,Below w.heap.size w W->Cb 114 #[.slice p len cap] W (.bool false)):
  Cb 84 #[.agg #[.int .i64 K,.slice p len cap,.int .i64 A,.int .i64 R,.int .i64 n,.int .i64 d,.slice q m vc,.int .i64 E]] w (.bool false):=by
 have H_c1:=Hd c1
 clear c1
 go_enter Tryz.func84,Tryz.ntmps84
 go_wp2_with fail
 refine(H_c1.out _ belowAny).mono ?_
 rintro e w1 ⟨rfl,hb1⟩
 have z2:=hb1.size
 try simp at z2
 refine haveB w w1 (Bc w.heap.size #[.int .i64 K,.slice p len cap,.int .i64 A,.int .i64 R,.int .i64 n,.int .i64 d,.slice q m vc,.int .i64 E] 49<|Bz) ?_
 rintro hW z3 ⟨⟨b1,yb1,k1,f1⟩,-⟩
 clear hb1
 go_wp2
 refine bodyPost_ret (v:= .bool false) (by simp[results,Tryz.results84,go_sem,k1,f1,yb1]) rfl ⟨rfl,hW⟩
theorem rr_no2 (K A R n d E:Int) (p q:Option Addr) (len cap m vc:Nat) (w:World) (hE:E<0∨1099511627776<E) (c1:∀W,Below w.heap.size w W->Cb 114 #[.slice p len cap] W (.bool true)):
  Cb 84 #[.agg #[.int .i64 K,.slice p len cap,.int .i64 A,.int .i64 R,.int .i64 n,.int .i64 d,.slice q m vc,.int .i64 E]] w (.bool false):=by
 rcases hE with hE|hE
 ·have H_c1:=Hd c1
  clear c1
  go_enter Tryz.func84,Tryz.ntmps84
  go_wp2_with fail
  refine(H_c1.out _ belowAny).mono ?_
  rintro e w1 ⟨rfl,hb1⟩
  have z2:=hb1.size
  try simp at z2
  refine haveB w w1 (Bc w.heap.size #[.int .i64 K,.slice p len cap,.int .i64 A,.int .i64 R,.int .i64 n,.int .i64 d,.slice q m vc,.int .i64 E] 49<|Bz) ?_
  rintro hW z3 ⟨⟨b1,yb1,k1,f1⟩,-⟩
  clear hb1
  go_wp2
  refine bodyPost_ret (v:= .bool false) (by simp[results,Tryz.results84,go_sem,k1,f1,yb1]) rfl ⟨rfl,hW⟩
 ·have H_c1:=Hd c1
  clear c1
  go_enter Tryz.func84,Tryz.ntmps84
  go_wp2_with fail
  refine(H_c1.out _ belowAny).mono ?_
  rintro e w1 ⟨rfl,hb1⟩
  have z2:=hb1.size
  try simp at z2
  refine haveB w w1 (Bc w.heap.size #[.int .i64 K,.slice p len cap,.int .i64 A,.int .i64 R,.int .i64 n,.int .i64 d,.slice q m vc,.int .i64 E] 49<|Bz) ?_
  rintro hW z3 ⟨⟨b1,yb1,k1,f1⟩,-⟩
  clear hb1
  go_wp2
  refine bodyPost_ret (v:= .bool false) (by simp[results,Tryz.results84,go_sem,k1,f1,yb1]) rfl ⟨rfl,hW⟩
theorem rr_raw0 (A R n d E:Int) (p q:Option Addr) (len cap m vc:Nat) (w:World) (hE0:0<=E) (hE1:E<=1099511627776) (hz:Hid (lineZ A R n d=false)) (c1:∀W,Below w.heap.size w W->Cb 114 #[.slice p len cap] W (.bool true)):
  Cb 84 #[.agg #[.int .i64 4,.slice p len cap,.int .i64 A,.int .i64 R,.int .i64 n,.int .i64 d,.slice q m vc,.int .i64 E]] w (.bool false):=by
 have H_c1:=Hd c1
 clear c1
 go_enter Tryz.func84,Tryz.ntmps84
 go_wp2_with fail
 refine(H_c1.out _ belowAny).mono ?_
 rintro e w1 ⟨rfl,hb1⟩
 have z2:=hb1.size
 try simp at z2
 refine haveB w w1 (Bc w.heap.size #[.int .i64 4,.slice p len cap,.int .i64 A,.int .i64 R,.int .i64 n,.int .i64 d,.slice q m vc,.int .i64 E] 49<|Bz) ?_
 rintro hW z3 ⟨⟨b1,yb1,k1,f1⟩,-⟩
 clear hb1
 go_upto_region 4 with(fail)
 clear k1 f1
 refine wp_cutB w (Bc w.heap.size #[.int .i64 4,.slice p len cap,.int .i64 A,.int .i64 R,.int .i64 n,.int .i64 d,.slice q m vc,.int .i64 E] 49<|Bz) ?_
 clear b1 hW
 rintro W4 hW z5 hL
 obtain⟨⟨b1,yb1,k1,f1⟩,-⟩:=id hL
 clear k1 f1
 refine wp_regD 14 60 hW hL ?_
 iterate 5
  apply nd_det (hg:=rfl) (hal:=rfl)
  ·intro a W' hC hE
   obtain⟨_,⟨-,-,k1,-⟩,-⟩:=hC
   first
    |(simp at hE;simp[go_sem,Act.eval,iw,hE,k1,ite_z4,hz.out];try rfl)
    |(clear hE;simp[go_sem,Act.eval,iw,k1,ite_z4,hz.out];try rfl)
 apply nd_detg (p:=true) (c:=undef) (hg:=rfl) (hd:=rfl) (hal:=rfl)
 ·intro v W' h
  simp at h
  simp
  exact h
 ·intro hp hx
  exact absurd hx (by decide)
 apply nd_detg (p:=true) (c:=undef) (hg:=rfl) (hd:=rfl) (hal:=rfl)
 ·intro v W' h
  simp at h
  simp
  exact h
 ·intro hp hx
  exact absurd hx (by decide)
 apply nd_detg (p:=true) (c:=undef) (hg:=rfl) (hd:=rfl) (hal:=rfl)
 ·intro v W' h
  simp at h
  simp
  exact h
 ·intro hp hx
  exact absurd hx (by decide)
 apply nd_detg (p:=true) (c:=undef) (hg:=rfl) (hd:=rfl) (hal:=rfl)
 ·intro v W' h
  simp at h
  simp
  exact h
 ·intro hp hx
  exact absurd hx (by decide)
 apply nd_detg (p:=true) (c:=undef) (hg:=rfl) (hd:=rfl) (hal:=rfl)
 ·intro v W' h
  simp at h
  simp
  exact h
 ·intro hp hx
  exact absurd hx (by decide)
 apply nd_detg (p:=true) (c:=undef) (hg:=rfl) (hd:=rfl) (hal:=rfl)
 ·intro v W' h
  simp at h
  simp
  exact h
 ·intro hp hx
  exact absurd hx (by decide)
 apply nd_detg (p:=true) (c:=undef) (hg:=rfl) (hd:=rfl) (hal:=rfl)
 ·intro v W' h
  simp at h
  simp
  exact h
 ·intro hp hx
  exact absurd hx (by decide)
 apply nd_detg (p:=true) (c:=undef) (hg:=rfl) (hd:=rfl) (hal:=rfl)
 ·intro v W' h
  simp at h
  simp
  exact h
 ·intro hp hx
  exact absurd hx (by decide)
 apply nd_pick_or (y:=false) (ho:=rfl) (hg:=rfl)
 ·intro v W' h
  simp at h
  exact h
 ·intro v W' h hx
  exact absurd hx (by decide)
 clear hW hL b1
 rintro W6 hW z7 hL
 simp only[ndR]
 intros
 repeat (rename GDet _ _ _ _=>hgd;clear hgd)
 simp only[ndS]
 refine wpList_nil ?_
 obtain⟨⟨b1,yb1,k1,f1⟩,-⟩:=hL
 rw[Bool.true_or]
 go_wp2
 refine bodyPost_ret (v:= .bool false) (by simp[results,Tryz.results84,go_sem,k1,f1,yb1]) rfl ⟨rfl,hW⟩
theorem rr_raw2 (A R n d E:Int) (p q:Option Addr) (len cap m vc:Nat) (w:World) (T:List Int) (ok:Bool) (hm:Hid (m=T.length)) (hE0:0<=E) (hE1:E<=1099511627776) (hz:Hid (lineZ A R n d=true)) (c1:∀W,Below w.heap.size w W->Cb 114 #[.slice p len cap] W (.bool true)) (c2:∀W,Below w.heap.size w W->Calls Tryz.prog 86 #[.slice p len cap] W fun e w'=>∃v,e= .returned v/\OwnR w' W.heap.size 2 1 v T.length (T.map (Value.int .i64))/\Below W.heap.size W w') (c3:∀W,Below w.heap.size w W->Calls Tryz.prog 117 #[.agg #[.int .i64 4,.slice p len cap,.int .i64 A,.int .i64 R,.int .i64 n,.int .i64 d,.slice q m vc,.int .i64 E]] W fun e w'=>∃v,e= .returned (.tuple #[v,.bool ok])/\Below W.heap.size W w'):
  Cb 84 #[.agg #[.int .i64 4,.slice p len cap,.int .i64 A,.int .i64 R,.int .i64 n,.int .i64 d,.slice q m vc,.int .i64 E]] w (.bool ok):=by
 have H_c1:=Hd c1
 clear c1
 have H_c2:=Hd c2
 clear c2
 have H_c3:=Hd c3
 clear c3
 go_enter Tryz.func84,Tryz.ntmps84
 go_wp2_with fail
 refine(H_c1.out _ belowAny).mono ?_
 rintro e w1 ⟨rfl,hb1⟩
 have z2:=hb1.size
 try simp at z2
 refine haveB w w1 (Bc w.heap.size #[.int .i64 4,.slice p len cap,.int .i64 A,.int .i64 R,.int .i64 n,.int .i64 d,.slice q m vc,.int .i64 E] 49<|Bz) ?_
 rintro hW z3 ⟨⟨b1,yb1,k1,f1⟩,-⟩
 clear hb1
 have c2:=H_c2.out
 go_upto_region 4 with(fail)
 clear k1 f1
 refine wp_cutB w (Bc w.heap.size #[.int .i64 4,.slice p len cap,.int .i64 A,.int .i64 R,.int .i64 n,.int .i64 d,.slice q m vc,.int .i64 E] 49<|Bz) ?_
 clear b1 hW
 rintro W4 hW z5 hL
 obtain⟨⟨b1,yb1,k1,f1⟩,-⟩:=id hL
 clear k1 f1
 refine wp_regD 14 60 hW hL ?_
 iterate 5
  apply nd_det (hg:=rfl) (hal:=rfl)
  ·intro a W' hC hE
   obtain⟨_,⟨-,-,k1,-⟩,-⟩:=hC
   first
    |(simp at hE;simp[go_sem,Act.eval,iw,hE,k1,ite_z4,hz.out];try rfl)
    |(clear hE;simp[go_sem,Act.eval,iw,k1,ite_z4,hz.out];try rfl)
 iterate 5
  apply nd_detg (p:=true) (hg:=rfl) (hd:=rfl) (hal:=rfl)
  ·intro v W' h
   simp[envOf,Det,GDet] at h
   simp
   exact h
  ·intro hp hx a W' hC hE
   obtain⟨_,⟨-,-,k1,-⟩,-⟩:=hC
   simp[hx] at hE
   simp[go_sem,Act.eval,iw,hE,k1,ite_z4,hz.out]
   try rfl
 apply nd_oncall (OV 0 T) (hg:=rfl) (hd:=rfl) (hal:=rfl)
 ·exact OV.closed _ _
 ·intro v W' h
  simp at h
  exact h
 ·intro a W' hC hE
  obtain⟨hR9,k1⟩:=hC
  simp[Oper.looksAt,Op.operands,Call.operands,envOf,Det,GDet] at hE
  refine⟨_,_,?_,(H_c2.out W' (hW.trans (hR9.of_priv hW.size))).mono ?_⟩
  ·simp[go_sem,Act.eval,hE]
   try rfl
  ·rintro e w' ⟨v,rfl,hv,hB⟩
   exact⟨_,rfl,hB,hv.mono (Nat.zero_le _)⟩
 apply nd_onval (Det (.int .i64 (T.length:Int))) (hg:=rfl) (hd:=rfl) (hal:=rfl)
 ·exact closed_det _ _
 ·intro v W' h
  simp at h
  exact h
 ·intro a W' hC hE
  simp[Oper.looksAt,Op.operands,Call.operands,envOf,Det,GDet] at hE
  obtain⟨h1,h2⟩:=hE
  obtain⟨p9,c9,e9,-,-,-,-⟩:=OwnR.form h1
  refine⟨_,?_,rfl⟩
  simp[go_sem,Act.eval,e9]
 iterate 1
  apply nd_detg (p:=true) (hg:=rfl) (hd:=rfl) (hal:=rfl)
  ·intro v W' h
   simp[envOf,Det,GDet] at h
   simp
   exact h
  ·intro hp hx a W' hC hE
   obtain⟨_,⟨-,-,k1,-⟩,-⟩:=hC
   simp[hx] at hE
   simp[go_sem,Act.eval,iw,hE,k1,ite_z4,hz.out]
   try rfl
 refine pO ?_
 clear hW hL b1
 rintro W6 hW z7 hL
 simp only[ndR]
 intros
 repeat (rename GDet _ _ _ _=>hgd;clear hgd)
 simp only[ndS]
 refine wpList_nil ?_
 obtain⟨⟨b1,yb1,k1,f1⟩,-⟩:=hL
 clear c2
 rw[show (false||(m:Int) !=(T.length:Int))=false by simp[hm.out]]
 have z77:=hW.size
 go_wp2_with fail
 refine(H_c3.out _ belowAny).mono ?_
 rintro e w8 ⟨v9,rfl,hb8⟩
 have z9:=hb8.size
 try simp at z9
 clear k1 f1
 refine haveB w w8 (Bc w.heap.size #[.int .i64 4,.slice p len cap,.int .i64 A,.int .i64 R,.int .i64 n,.int .i64 d,.slice q m vc,.int .i64 E] 49<|Bz) ?_
 clear b1 hW
 rintro hW z10 ⟨⟨b1,yb1,k1,f1⟩,-⟩
 go_wp2
 refine bodyPost_ret (v:= .bool ok) (by simp[results,Tryz.results84,go_sem,k1,f1,yb1]) rfl ⟨rfl,hW⟩
theorem rr_line0 (K A R n d E:Int) (p q:Option Addr) (len cap m vc:Nat) (w:World) (hK:(K==4)=false) (hF:Hid ((decide (0<m)|| !isLine A R n d||K !=kindR R n)=true)) (hE0:0<=E) (hE1:E<=1099511627776) (c1:∀W,Below w.heap.size w W->Cb 114 #[.slice p len cap] W (.bool true)):
  Cb 84 #[.agg #[.int .i64 K,.slice p len cap,.int .i64 A,.int .i64 R,.int .i64 n,.int .i64 d,.slice q m vc,.int .i64 E]] w (.bool false):=by
 have H_c1:=Hd c1
 clear c1
 go_enter Tryz.func84,Tryz.ntmps84
 go_wp2_with fail
 refine(H_c1.out _ belowAny).mono ?_
 rintro e w1 ⟨rfl,hb1⟩
 have z2:=hb1.size
 try simp at z2
 refine haveB w w1 (Bc w.heap.size #[.int .i64 K,.slice p len cap,.int .i64 A,.int .i64 R,.int .i64 n,.int .i64 d,.slice q m vc,.int .i64 E] 49<|Bz) ?_
 rintro hW z3 ⟨⟨b1,yb1,k1,f1⟩,-⟩
 clear hb1
 go_upto_region 6 with(fail)
 clear k1 f1
 refine wp_cutB w (Bc w.heap.size #[.int .i64 K,.slice p len cap,.int .i64 A,.int .i64 R,.int .i64 n,.int .i64 d,.slice q m vc,.int .i64 E] 49<|Bz) ?_
 clear b1 hW
 rintro W4 hW z5 hL
 refine wp_regD 18 60 hW hL ?_
 iterate 5 refine dA ?_
 iterate 2 refine gA ?_
 refine cG (fun hp hx W' hC=>c_rline A R n d W') ?_
 refine gA ?_
 refine pO ?_
 refine dA ?_
 iterate 4 refine gA ?_
 refine cG (fun hp hx W' hC=>c_rkind A R n d W') ?_
 refine gA ?_
 refine pO ?_
 clear hW hL
 rintro W6 hW z7 hL
 simp only[ndR]
 intros
 repeat (rename GDet _ _ _ _=>hgd;clear hgd)
 simp only[ndS]
 refine wpList_nil ?_
 obtain⟨⟨b1,yb1,k1,f1⟩,-⟩:=hL
 rw[hF.out]
 go_wp2
 refine bodyPost_ret (v:= .bool false) (by simp[results,Tryz.results84,go_sem,k1,f1,yb1]) rfl ⟨rfl,hW⟩
theorem rr_line1 (K A R n d E:Int) (p q:Option Addr) (len cap m vc:Nat) (w:World) (ok:Bool) (hK:(K==4)=false) (hF:Hid ((decide (0<m)|| !isLine A R n d||K !=kindR R n)=false)) (hE0:0<=E) (hE1:E<=1099511627776) (c1:∀W,Below w.heap.size w W->Cb 114 #[.slice p len cap] W (.bool true)) (c3:∀W,Below w.heap.size w W->Calls Tryz.prog 117 #[.agg #[.int .i64 K,.slice p len cap,.int .i64 A,.int .i64 R,.int .i64 n,.int .i64 d,.slice q m vc,.int .i64 E]] W fun e w'=>∃v,e= .returned (.tuple #[v,.bool ok])/\Below W.heap.size W w'):
  Cb 84 #[.agg #[.int .i64 K,.slice p len cap,.int .i64 A,.int .i64 R,.int .i64 n,.int .i64 d,.slice q m vc,.int .i64 E]] w (.bool ok):=by
 have H_c1:=Hd c1
 clear c1
 have H_c3:=Hd c3
 clear c3
 go_enter Tryz.func84,Tryz.ntmps84
 go_wp2_with fail
 refine(H_c1.out _ belowAny).mono ?_
 rintro e w1 ⟨rfl,hb1⟩
 have z2:=hb1.size
 try simp at z2
 refine haveB w w1 (Bc w.heap.size #[.int .i64 K,.slice p len cap,.int .i64 A,.int .i64 R,.int .i64 n,.int .i64 d,.slice q m vc,.int .i64 E] 49<|Bz) ?_
 rintro hW z3 ⟨⟨b1,yb1,k1,f1⟩,-⟩
 clear hb1
 go_upto_region 6 with(fail)
 clear k1 f1
 refine wp_cutB w (Bc w.heap.size #[.int .i64 K,.slice p len cap,.int .i64 A,.int .i64 R,.int .i64 n,.int .i64 d,.slice q m vc,.int .i64 E] 49<|Bz) ?_
 clear b1 hW
 rintro W4 hW z5 hL
 refine wp_regD 18 60 hW hL ?_
 iterate 5 refine dA ?_
 iterate 2 refine gA ?_
 refine cG (fun hp hx W' hC=>c_rline A R n d W') ?_
 refine gA ?_
 refine pO ?_
 refine dA ?_
 iterate 4 refine gA ?_
 refine cG (fun hp hx W' hC=>c_rkind A R n d W') ?_
 refine gA ?_
 refine pO ?_
 clear hW hL
 rintro W6 hW z7 hL
 simp only[ndR]
 intros
 repeat (rename GDet _ _ _ _=>hgd;clear hgd)
 simp only[ndS]
 refine wpList_nil ?_
 obtain⟨⟨b1,yb1,k1,f1⟩,-⟩:=hL
 rw[hF.out]
 have z77:=hW.size
 go_wp2_with fail
 refine(H_c3.out _ belowAny).mono ?_
 rintro e w8 ⟨v9,rfl,hb8⟩
 have z9:=hb8.size
 try simp at z9
 clear k1 f1
 refine haveB w w8 (Bc w.heap.size #[.int .i64 K,.slice p len cap,.int .i64 A,.int .i64 R,.int .i64 n,.int .i64 d,.slice q m vc,.int .i64 E] 49<|Bz) ?_
 clear b1 hW
 rintro hW z10 ⟨⟨b1,yb1,k1,f1⟩,-⟩
 go_wp2
 refine bodyPost_ret (v:= .bool ok) (by simp[results,Tryz.results84,go_sem,k1,f1,yb1]) rfl ⟨rfl,hW⟩
theorem rr_raw1 (A R n d E:Int) (p q:Option Addr) (len cap m vc:Nat) (w:World) (T:List Int) (hm:¬m=T.length) (hE0:0<=E) (hE1:E<=1099511627776) (hz:Hid (lineZ A R n d=true)) (c1:∀W,Below w.heap.size w W->Cb 114 #[.slice p len cap] W (.bool true)) (c2:∀W,Below w.heap.size w W->Calls Tryz.prog 86 #[.slice p len cap] W fun e w'=>∃v,e= .returned v/\OwnR w' W.heap.size 2 1 v T.length (T.map (Value.int .i64))/\Below W.heap.size W w'):
  Cb 84 #[.agg #[.int .i64 4,.slice p len cap,.int .i64 A,.int .i64 R,.int .i64 n,.int .i64 d,.slice q m vc,.int .i64 E]] w (.bool false):=by
 have H_c1:=Hd c1
 clear c1
 have H_c2:=Hd c2
 clear c2
 go_enter Tryz.func84,Tryz.ntmps84
 go_wp2_with fail
 refine(H_c1.out _ belowAny).mono ?_
 rintro e w1 ⟨rfl,hb1⟩
 have z2:=hb1.size
 try simp at z2
 refine haveB w w1 (Bc w.heap.size #[.int .i64 4,.slice p len cap,.int .i64 A,.int .i64 R,.int .i64 n,.int .i64 d,.slice q m vc,.int .i64 E] 49<|Bz) ?_
 rintro hW z3 ⟨⟨b1,yb1,k1,f1⟩,-⟩
 clear hb1
 have c2:=H_c2.out
 go_upto_region 4 with(fail)
 clear k1 f1
 refine wp_cutB w (Bc w.heap.size #[.int .i64 4,.slice p len cap,.int .i64 A,.int .i64 R,.int .i64 n,.int .i64 d,.slice q m vc,.int .i64 E] 49<|Bz) ?_
 clear b1 hW
 rintro W4 hW z5 hL
 obtain⟨⟨b1,yb1,k1,f1⟩,-⟩:=id hL
 clear k1 f1
 refine wp_regD 14 60 hW hL ?_
 iterate 5
  apply nd_det (hg:=rfl) (hal:=rfl)
  ·intro a W' hC hE
   obtain⟨_,⟨-,-,k1,-⟩,-⟩:=hC
   first
    |(simp at hE;simp[go_sem,Act.eval,iw,hE,k1,ite_z4,hz.out];try rfl)
    |(clear hE;simp[go_sem,Act.eval,iw,k1,ite_z4,hz.out];try rfl)
 iterate 5
  apply nd_detg (p:=true) (hg:=rfl) (hd:=rfl) (hal:=rfl)
  ·intro v W' h
   simp[envOf,Det,GDet] at h
   simp
   exact h
  ·intro hp hx a W' hC hE
   obtain⟨_,⟨-,-,k1,-⟩,-⟩:=hC
   simp[hx] at hE
   simp[go_sem,Act.eval,iw,hE,k1,ite_z4,hz.out]
   try rfl
 apply nd_oncall (OV 0 T) (hg:=rfl) (hd:=rfl) (hal:=rfl)
 ·exact OV.closed _ _
 ·intro v W' h
  simp at h
  exact h
 ·intro a W' hC hE
  obtain⟨hR9,k1⟩:=hC
  simp[Oper.looksAt,Op.operands,Call.operands,envOf,Det,GDet] at hE
  refine⟨_,_,?_,(H_c2.out W' (hW.trans (hR9.of_priv hW.size))).mono ?_⟩
  ·simp[go_sem,Act.eval,hE]
   try rfl
  ·rintro e w' ⟨v,rfl,hv,hB⟩
   exact⟨_,rfl,hB,hv.mono (Nat.zero_le _)⟩
 apply nd_onval (Det (.int .i64 (T.length:Int))) (hg:=rfl) (hd:=rfl) (hal:=rfl)
 ·exact closed_det _ _
 ·intro v W' h
  simp at h
  exact h
 ·intro a W' hC hE
  simp[Oper.looksAt,Op.operands,Call.operands,envOf,Det,GDet] at hE
  obtain⟨h1,h2⟩:=hE
  obtain⟨p9,c9,e9,-,-,-,-⟩:=OwnR.form h1
  refine⟨_,?_,rfl⟩
  simp[go_sem,Act.eval,e9]
 iterate 1
  apply nd_detg (p:=true) (hg:=rfl) (hd:=rfl) (hal:=rfl)
  ·intro v W' h
   simp[envOf,Det,GDet] at h
   simp
   exact h
  ·intro hp hx a W' hC hE
   obtain⟨_,⟨-,-,k1,-⟩,-⟩:=hC
   simp[hx] at hE
   simp[go_sem,Act.eval,iw,hE,k1,ite_z4,hz.out]
   try rfl
 refine pO ?_
 clear hW hL b1
 rintro W6 hW z7 hL
 simp only[ndR]
 intros
 repeat (rename GDet _ _ _ _=>hgd;clear hgd)
 simp only[ndS]
 refine wpList_nil ?_
 obtain⟨⟨b1,yb1,k1,f1⟩,-⟩:=hL
 clear c2
 rw[show (false||(m:Int) !=(T.length:Int))=true by simp;omega]
 go_wp2
 refine bodyPost_ret (v:= .bool false) (by simp[results,Tryz.results84,go_sem,k1,f1,yb1]) rfl ⟨rfl,hW⟩
end Go.Proofs.YtpdhdjlhicceoaaGreatDoor
