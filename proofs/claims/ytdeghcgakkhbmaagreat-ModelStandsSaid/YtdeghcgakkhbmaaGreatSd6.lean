/- Parts of the proof that follows. No condition. -/
import Derived.Test.YtdeghcgakkhbmaaGreatSd5
set_option maxRecDepth 100000
set_option maxHeartbeats 8000000
set_option linter.unusedSimpArgs false
set_option linter.unusedVariables false
namespace Go.Proofs.YtdeghcgakkhbmaaGreat
open Go.RowKit
def Ji (w:World) (p:Option Addr) (a:List Int) (n ca:Nat) (vb:Value) (a':Act) (W:World):Prop:=
 Below w.heap.size w W/\∃(k:Nat) (v:Value) (pq:Option Addr) (lq:List Int) (cq r:Nat),(∃u:Nat->Value,a'= {tmps:= #[.slice p a.length ca,vb,u 2,u 3,u 4,u 5,.slice pq lq.length cq,v,.int .i64 ((k:Int)-1),u 9,u 10,u 11,u 12,u 13,u 14,u 15,u 16,u 17,u 18,u 19,u 20,u 21,u 22,u 23,u 24,u 25,u 26,u 27,u 28,u 29,u 30,u 31,u 32,u 33,u 34,u 35,u 36,u 37,u 38],defers:= []})/\k<=a.length/\
  Av W v r/\r<n/\Ci W pq lq/\Dig lq/\(pq=none->lq= []/\cq=0)/\(lq.length<=cq/\cq<=9223372036854775807)/\lq.length+k=a.length/\Aq (a.drop k)=Aq lq*n+r
theorem parts_w (p:Option Addr) (a:List Int) (ca n:Nat) (vb:Value) (w:World) (ha:Ci w p a) (hb:Av w vb n) (hda:Dig a) (hla:a.length<=800) (hn0:0<n) (hn:n<2^800):
  Calls Tryz.prog 180 #[.slice p a.length ca,vb] w fun e w'=>∃v1 v2,e= .returned (.tuple #[v1,v2])/\Av w' v1 (Aq a/n)/\Av w' v2 (Aq a%n)/\Below w.heap.size w w':=by
 obtain⟨i0,hi,hz0,hz1,hz2⟩:=info_parts Tryz.infoI
 go_enter Tryz.func180,Tryz.ntmps180
 go_wp2
 refine wp_loop (Ji w p a n ca vb) (fun a' _=>((Ag (a'.tmps.getD 8 undef))+1).toNat) ?_ ?_
 ·unfold Ji
  exact⟨Below.refl _ _,a.length,_,none,[],0,0,Ac rfl,Nat.le_refl _,Av.zero _,hn0,⟨fun i x h=>by simp at h,fun a e=>by cases e⟩,Dig.nil,fun _=>⟨rfl,rfl⟩,by simp,by simp,by rw[List.drop_eq_nil_of_le (Nat.le_refl _)];simp[Aq]⟩
 ·rintro a' W ⟨hW,k,v,pq,lq,cq,r,⟨u,rfl⟩,hk,hv,hr,hiq,hdq,hnq,hcq,hlq,hinv⟩
  have hz:=hW.size
  replace hinv:=Hd hinv
  replace hnq:=Hd hnq
  replace hr:=Hd hr
  cases k with
  |zero=>
   replace hv:=Hd hv
   have ct:=Hd (fun W' (hW':Below W.heap.size W W')=>Pn pq cq lq W' (hiq.below hW') hnq.out hcq.1 hcq.2 (by omega) hdq)
   clear hiq
   go_wp2_with fail
   refine(ct.out _ (Below.refl _ _)).mono ?_
   rintro e w2 ⟨v2,rfl,hb2,hB2⟩
   replace hb2:=Hd hb2
   have hv2:=Hd (hv.out.below hB2)
   have hBB:=Hd (hW.trans (hB2.mono hz))
   clear hB2 ct
   go_wp2
   have hin:=hinv.out
   have hrn:=hr.out
   rw[List.drop_zero] at hin
   have e1:Aq a/n=Aq lq:=by rw[hin,Nat.add_comm,Nat.add_mul_div_right _ _ hn0,Nat.div_eq_of_lt hrn,Nat.zero_add]
   have e2:Aq a%n=r:=by rw[hin,Nat.add_comm,Nat.add_mul_mod_self_right,Nat.mod_eq_of_lt hrn]
   refine bodyPost_ret (v:= .tuple #[v2,v]) (by simp[results,Tryz.results180,go_sem]) rfl ⟨_,_,rfl,by rw[e1];exact hb2.out,by rw[e2];exact hv2.out,hBB.out⟩
  |succ j=>
   obtain⟨y,hy⟩:∃y,a[j]? =some y:=⟨a[j],List.getElem?_eq_getElem (by omega)⟩
   obtain⟨ga,oa,rfl,qb⟩:=(ha.below hW).at' _ y hy
   obtain⟨pl,l,cl,rfl,hlc,hl1,hln,hil,hdl,hcl,hvl⟩:=hv
   replace hvl:=Hd hvl
   replace hln:=Hd hln
   have by01:=hda.at hy
   have hstep:=Hd (O3 hy)
   have hl9:l.length<=800:=D9 hcl (by rw[hvl.out];exact Nat.lt_trans hr.out hn)
   have hn9:=Hd (Nat.lt_trans hn (J9 800 900 (by omega)))
   have hiq0:=Hd hiq
   have e0:((j+1:Nat):Int)-1=(j:Int):=by omega
   rw[e0]
   clear hy e0 hiq hn
   cases pl with
   |none=>
    obtain⟨rfl,rfl⟩:=hln.out rfl
    have ct:=Hd (fun W' (hW':Below (W.alloc (.cells #[y] 3)).heap.size (W.alloc (.cells #[y] 3)) W')=>Pn (some ⟨W.heap.size,0,none⟩) 1 [y] W' ((Gm W y).below hW') (fun e=>by cases e) (by simp) (by omega) (by simp) (Dig.nil.cons by01))
    have hB:=hW.alloc hz (.cells #[y] 3)
    have hW1:=Hd ((Below.refl W.heap.size W).alloc (Nat.le_refl _) (.cells #[y] 3))
    have hz3:=hW1.out.size
    replace hB:=Hd hB
    have hs1:=hB.out.size
    go_wp2_with fail
    refine(ct.out _ (Below.refl _ _)).mono ?_
    rintro e w2 ⟨v2,rfl,hb2,hB2⟩
    obtain⟨R,hR⟩:∃R,R=Aq (y:: []):=⟨_,rfl⟩
    have hz4:W.heap.size<=w2.heap.size:=Nat.le_trans hz3 hB2.size
    have hRlt:R<2^801:=by rw[hR];exact Gv (k:=801) (hdl.cons by01) (by simp<;>omega)
    have hR2:R=y.toNat+2*r:=by rw[hR,<-hvl.out];rfl
    rw[<-hR] at hb2
    clear hR
    have hRl:=Hd (Nat.lt_trans hRlt (J9 801 900 (by omega)))
    replace hb2:=Hd hb2
    have hBB:=Hd (hB.out.trans (hB2.mono hs1))
    have hs2:=hBB.out.size
    have cl:=Hd (Ls v2 vb R n w2 hb2.out (hb.below hBB.out) hRl.out hn9.out)
    have hW2:=Hd (hW1.out.trans (hB2.mono hz3))
    clear hB2 hB ct hs1 qb hRlt
    replace hR2:=Hd hR2
    go_wp2_with fail
    refine cl.out.mono ?_
    rintro e w3 ⟨rfl,hB3⟩
    have hb3:=Hd (hb2.out.below hB3)
    have hB4:=Hd (hBB.out.trans (hB3.mono hs2))
    have hW3:=Hd (hW2.out.trans (hB3.mono hz4))
    clear hB3 cl
    by_cases hlt:R<n
    ·have hlt2:=Hd hlt
     have hinv2:=Hd (show Aq (a.drop j)=Aq (0::lq)*n+R by
      rw[hstep.out,hinv.out,hR2.out]
      simp only[Aq]
      rw[show (0:Int).toNat=0 from rfl,Nat.zero_add,Nat.mul_assoc]
      omega)
     have hd:=Hd (show decide (R<n)=true by simp[hlt])
     rw[hd.out]
     clear hlt
     have hzs:=hB4.out.size
     cases pq with
     |none=>
      obtain⟨rfl,rfl⟩:=hnq.out rfl
      go_wp2
      refine⟨?_,by simp[Ag]⟩
      unfold Ji
      have hA:=hB4.out.alloc hzs (.cells #[.int .i64 0] 3)
      exact⟨hA,j,v2,some ⟨w3.heap.size,0,none⟩,[0],1,R,Ac rfl,by omega,hb3.out.below ((Below.refl _ _).alloc (Nat.le_refl _) _),hlt2.out,Gm w3 0,Dig.nil.cons (by omega),(fun e=>by cases e),by simp,by simp at hlq⊢;omega,hinv2.out⟩
     |some aq=>
      have TT:=hiq0.out.below hW3.out
      have T4:1+lq.length<=maxLen:=by simp[maxLen];omega
      have T5:(1+lq.length)*8<=140737488355328:=by omega
      have T6:w.heap.size<=(w3.alloc (.cells #[.int .i64 0] 3)).heap.size:=by simp;omega
      go_wp2_with (at_builtin;refine wpList_append_own _ rfl (.tmp 33) (.tmp 34) 113 rfl w.heap.size 3 i0 (.int .i64 0) 1 8 (by kernel_rfl) hi hz0 hz1 hz2 rfl (by decide) _ 1 [.int .i64 0] rfl (Gg w3 0 hzs) aq lq.length cq (lq.map (Value.int .i64)) rfl (by simp) (Jz TT) (Jy lq) T4 T5 T6 ?_)
      clear TT T4 T5 T6
      intro v' w5 hown hgr _
      obtain⟨p',cap',rfl,hcap,hcm,hn',hI⟩:=Hp (l:=0::lq) hown (by simp;omega)
      have hA:=Hd ((hB4.out.alloc hzs (.cells #[.int .i64 0] 3)).grown hgr (by simp;omega) fun j ej=>by
       obtain rfl:w3.heap.size=j:=by simpa [Value.ownBlock] using ej
       exact hzs)
      have hA2:=Hd (((Below.refl w3.heap.size w3).alloc (Nat.le_refl _) (.cells #[.int .i64 0] 3)).grown hgr (by simp) fun j ej=>by
       obtain rfl:w3.heap.size=j:=by simpa [Value.ownBlock] using ej
       exact Nat.le_refl _)
      replace hI:=Hd hI
      replace hn':=Hd hn'
      clear hown hgr
      go_wp2
      refine⟨?_,by simp[Ag]⟩
      unfold Ji
      exact⟨hA.out,j,v2,p',0::lq,cap',R,Ac rfl,by omega,hb3.out.below hA2.out,hlt2.out,hI.out,hdq.cons (by omega),(fun e=>absurd (hn'.out e).1 (by simp)),⟨hcap,hcm⟩,by simp;omega,hinv2.out⟩
    ·have hlt2:=Hd (show R-n<n by have:=hR2.out;have:=hr.out;omega)
     have hinv2:=Hd (show Aq (a.drop j)=Aq (1::lq)*n+(R-n) by
      rw[hstep.out,hinv.out]
      simp only[Aq]
      rw[show (1:Int).toNat=1 from rfl,Nat.add_mul,Nat.mul_assoc]
      have:=hR2.out
      omega)
     have hd:=Hd (show decide (R<n)=false by simp;omega)
     rw[hd.out]
     have cm:=Hd (Kh v2 vb R n w3 hb3.out (hb.below hB4.out) hRl.out (by omega))
     have hs4:=hB4.out.size
     go_wp2_with fail
     refine cm.out.mono ?_
     rintro e w4 ⟨v4,rfl,hb5,hB5⟩
     replace hb5:=Hd hb5
     have hB6:=Hd (hB4.out.trans (hB5.mono hs4))
     have hz5:W.heap.size<=w3.heap.size:=hW3.out.size
     have hW4:=Hd (hW3.out.trans (hB5.mono hz5))
     clear hB5 cm
     have hzs:=hB6.out.size
     cases pq with
     |none=>
      obtain⟨rfl,rfl⟩:=hnq.out rfl
      go_wp2
      refine⟨?_,by simp[Ag]⟩
      unfold Ji
      have hA:=hB6.out.alloc hzs (.cells #[.int .i64 1] 3)
      exact⟨hA,j,v4,some ⟨w4.heap.size,0,none⟩,[1],1,(R-n),Ac rfl,by omega,hb5.out.below ((Below.refl _ _).alloc (Nat.le_refl _) _),hlt2.out,Gm w4 1,Dig.nil.cons (by omega),(fun e=>by cases e),by simp,by simp at hlq⊢;omega,hinv2.out⟩
     |some aq=>
      have TT:=hiq0.out.below hW4.out
      have T4:1+lq.length<=maxLen:=by simp[maxLen];omega
      have T5:(1+lq.length)*8<=140737488355328:=by omega
      have T6:w.heap.size<=(w4.alloc (.cells #[.int .i64 1] 3)).heap.size:=by simp;omega
      go_wp2_with (at_builtin;refine wpList_append_own _ rfl (.tmp 33) (.tmp 34) 113 rfl w.heap.size 3 i0 (.int .i64 0) 1 8 (by kernel_rfl) hi hz0 hz1 hz2 rfl (by decide) _ 1 [.int .i64 1] rfl (Gg w4 1 hzs) aq lq.length cq (lq.map (Value.int .i64)) rfl (by simp) (Jz TT) (Jy lq) T4 T5 T6 ?_)
      clear TT T4 T5 T6
      intro v' w5 hown hgr _
      obtain⟨p',cap',rfl,hcap,hcm,hn',hI⟩:=Hp (l:=1::lq) hown (by simp;omega)
      have hA:=Hd ((hB6.out.alloc hzs (.cells #[.int .i64 1] 3)).grown hgr (by simp;omega) fun j ej=>by
       obtain rfl:w4.heap.size=j:=by simpa [Value.ownBlock] using ej
       exact hzs)
      have hA2:=Hd (((Below.refl w4.heap.size w4).alloc (Nat.le_refl _) (.cells #[.int .i64 1] 3)).grown hgr (by simp) fun j ej=>by
       obtain rfl:w4.heap.size=j:=by simpa [Value.ownBlock] using ej
       exact Nat.le_refl _)
      replace hI:=Hd hI
      replace hn':=Hd hn'
      clear hown hgr
      go_wp2
      refine⟨?_,by simp[Ag]⟩
      unfold Ji
      exact⟨hA.out,j,v4,p',1::lq,cap',(R-n),Ac rfl,by omega,hb5.out.below hA2.out,hlt2.out,hI.out,hdq.cons (by omega),(fun e=>absurd (hn'.out e).1 (by simp)),⟨hcap,hcm⟩,by simp;omega,hinv2.out⟩
   |some ad=>
    go_wp2_with (at_builtin;refine wpList_append_own _ rfl (.tmp 21) (.tmp 22) 113 rfl w.heap.size 3 i0 (.int .i64 0) 1 8 (by kernel_rfl) hi hz0 hz1 hz2 rfl (by decide) _ 1 [y] rfl (Gg W y hz) ad l.length cl (l.map (Value.int .i64)) rfl (by simp) (Jz hil) (Jy l) (by simp[maxLen];omega) (by omega) (by simp;omega) ?_)
    intro v' w1 hown hgr _
    obtain⟨p',cap',rfl,hcap,hcm,hn',hI⟩:=Hp (l:=y::l) hown (by simp;omega)
    have hB:=(hW.alloc hz (.cells #[y] 3)).grown hgr (by simp;omega) fun j ej=>by
     obtain rfl:W.heap.size=j:=by simpa [Value.ownBlock] using ej
     exact hz
    have hW1:=Hd (((Below.refl W.heap.size W).alloc (Nat.le_refl _) (.cells #[y] 3)).grown hgr (by simp) fun j ej=>by
     obtain rfl:W.heap.size=j:=by simpa [Value.ownBlock] using ej
     exact Nat.le_refl _)
    have hz3:=hW1.out.size
    have ct:=Hd (fun W' (hW':Below w1.heap.size w1 W')=>Pn p' cap' (y::l) W' (hI.below hW') hn' hcap hcm (by simp;omega) (hdl.cons by01))
    clear hown hgr hI
    replace hB:=Hd hB
    have hs1:=hB.out.size
    go_wp2_with fail
    refine(ct.out _ (Below.refl _ _)).mono ?_
    rintro e w2 ⟨v2,rfl,hb2,hB2⟩
    obtain⟨R,hR⟩:∃R,R=Aq (y::l):=⟨_,rfl⟩
    have hz4:W.heap.size<=w2.heap.size:=Nat.le_trans hz3 hB2.size
    have hRlt:R<2^801:=by rw[hR];exact Gv (k:=801) (hdl.cons by01) (by simp<;>omega)
    have hR2:R=y.toNat+2*r:=by rw[hR,<-hvl.out];rfl
    rw[<-hR] at hb2
    clear hR
    have hRl:=Hd (Nat.lt_trans hRlt (J9 801 900 (by omega)))
    replace hb2:=Hd hb2
    have hBB:=Hd (hB.out.trans (hB2.mono hs1))
    have hs2:=hBB.out.size
    have cl:=Hd (Ls v2 vb R n w2 hb2.out (hb.below hBB.out) hRl.out hn9.out)
    have hW2:=Hd (hW1.out.trans (hB2.mono hz3))
    clear hB2 hB ct hs1 qb hRlt
    replace hR2:=Hd hR2
    go_wp2_with fail
    refine cl.out.mono ?_
    rintro e w3 ⟨rfl,hB3⟩
    have hb3:=Hd (hb2.out.below hB3)
    have hB4:=Hd (hBB.out.trans (hB3.mono hs2))
    have hW3:=Hd (hW2.out.trans (hB3.mono hz4))
    clear hB3 cl
    by_cases hlt:R<n
    ·have hlt2:=Hd hlt
     have hinv2:=Hd (show Aq (a.drop j)=Aq (0::lq)*n+R by
      rw[hstep.out,hinv.out,hR2.out]
      simp only[Aq]
      rw[show (0:Int).toNat=0 from rfl,Nat.zero_add,Nat.mul_assoc]
      omega)
     have hd:=Hd (show decide (R<n)=true by simp[hlt])
     rw[hd.out]
     clear hlt
     have hzs:=hB4.out.size
     cases pq with
     |none=>
      obtain⟨rfl,rfl⟩:=hnq.out rfl
      go_wp2
      refine⟨?_,by simp[Ag]⟩
      unfold Ji
      have hA:=hB4.out.alloc hzs (.cells #[.int .i64 0] 3)
      exact⟨hA,j,v2,some ⟨w3.heap.size,0,none⟩,[0],1,R,Ac rfl,by omega,hb3.out.below ((Below.refl _ _).alloc (Nat.le_refl _) _),hlt2.out,Gm w3 0,Dig.nil.cons (by omega),(fun e=>by cases e),by simp,by simp at hlq⊢;omega,hinv2.out⟩
     |some aq=>
      have TT:=hiq0.out.below hW3.out
      have T4:1+lq.length<=maxLen:=by simp[maxLen];omega
      have T5:(1+lq.length)*8<=140737488355328:=by omega
      have T6:w.heap.size<=(w3.alloc (.cells #[.int .i64 0] 3)).heap.size:=by simp;omega
      go_wp2_with (at_builtin;refine wpList_append_own _ rfl (.tmp 33) (.tmp 34) 113 rfl w.heap.size 3 i0 (.int .i64 0) 1 8 (by kernel_rfl) hi hz0 hz1 hz2 rfl (by decide) _ 1 [.int .i64 0] rfl (Gg w3 0 hzs) aq lq.length cq (lq.map (Value.int .i64)) rfl (by simp) (Jz TT) (Jy lq) T4 T5 T6 ?_)
      clear TT T4 T5 T6
      intro v' w5 hown hgr _
      obtain⟨p',cap',rfl,hcap,hcm,hn',hI⟩:=Hp (l:=0::lq) hown (by simp;omega)
      have hA:=Hd ((hB4.out.alloc hzs (.cells #[.int .i64 0] 3)).grown hgr (by simp;omega) fun j ej=>by
       obtain rfl:w3.heap.size=j:=by simpa [Value.ownBlock] using ej
       exact hzs)
      have hA2:=Hd (((Below.refl w3.heap.size w3).alloc (Nat.le_refl _) (.cells #[.int .i64 0] 3)).grown hgr (by simp) fun j ej=>by
       obtain rfl:w3.heap.size=j:=by simpa [Value.ownBlock] using ej
       exact Nat.le_refl _)
      replace hI:=Hd hI
      replace hn':=Hd hn'
      clear hown hgr
      go_wp2
      refine⟨?_,by simp[Ag]⟩
      unfold Ji
      exact⟨hA.out,j,v2,p',0::lq,cap',R,Ac rfl,by omega,hb3.out.below hA2.out,hlt2.out,hI.out,hdq.cons (by omega),(fun e=>absurd (hn'.out e).1 (by simp)),⟨hcap,hcm⟩,by simp;omega,hinv2.out⟩
    ·have hlt2:=Hd (show R-n<n by have:=hR2.out;have:=hr.out;omega)
     have hinv2:=Hd (show Aq (a.drop j)=Aq (1::lq)*n+(R-n) by
      rw[hstep.out,hinv.out]
      simp only[Aq]
      rw[show (1:Int).toNat=1 from rfl,Nat.add_mul,Nat.mul_assoc]
      have:=hR2.out
      omega)
     have hd:=Hd (show decide (R<n)=false by simp;omega)
     rw[hd.out]
     have cm:=Hd (Kh v2 vb R n w3 hb3.out (hb.below hB4.out) hRl.out (by omega))
     have hs4:=hB4.out.size
     go_wp2_with fail
     refine cm.out.mono ?_
     rintro e w4 ⟨v4,rfl,hb5,hB5⟩
     replace hb5:=Hd hb5
     have hB6:=Hd (hB4.out.trans (hB5.mono hs4))
     have hz5:W.heap.size<=w3.heap.size:=hW3.out.size
     have hW4:=Hd (hW3.out.trans (hB5.mono hz5))
     clear hB5 cm
     have hzs:=hB6.out.size
     cases pq with
     |none=>
      obtain⟨rfl,rfl⟩:=hnq.out rfl
      go_wp2
      refine⟨?_,by simp[Ag]⟩
      unfold Ji
      have hA:=hB6.out.alloc hzs (.cells #[.int .i64 1] 3)
      exact⟨hA,j,v4,some ⟨w4.heap.size,0,none⟩,[1],1,(R-n),Ac rfl,by omega,hb5.out.below ((Below.refl _ _).alloc (Nat.le_refl _) _),hlt2.out,Gm w4 1,Dig.nil.cons (by omega),(fun e=>by cases e),by simp,by simp at hlq⊢;omega,hinv2.out⟩
     |some aq=>
      have TT:=hiq0.out.below hW4.out
      have T4:1+lq.length<=maxLen:=by simp[maxLen];omega
      have T5:(1+lq.length)*8<=140737488355328:=by omega
      have T6:w.heap.size<=(w4.alloc (.cells #[.int .i64 1] 3)).heap.size:=by simp;omega
      go_wp2_with (at_builtin;refine wpList_append_own _ rfl (.tmp 33) (.tmp 34) 113 rfl w.heap.size 3 i0 (.int .i64 0) 1 8 (by kernel_rfl) hi hz0 hz1 hz2 rfl (by decide) _ 1 [.int .i64 1] rfl (Gg w4 1 hzs) aq lq.length cq (lq.map (Value.int .i64)) rfl (by simp) (Jz TT) (Jy lq) T4 T5 T6 ?_)
      clear TT T4 T5 T6
      intro v' w5 hown hgr _
      obtain⟨p',cap',rfl,hcap,hcm,hn',hI⟩:=Hp (l:=1::lq) hown (by simp;omega)
      have hA:=Hd ((hB6.out.alloc hzs (.cells #[.int .i64 1] 3)).grown hgr (by simp;omega) fun j ej=>by
       obtain rfl:w4.heap.size=j:=by simpa [Value.ownBlock] using ej
       exact hzs)
      have hA2:=Hd (((Below.refl w4.heap.size w4).alloc (Nat.le_refl _) (.cells #[.int .i64 1] 3)).grown hgr (by simp) fun j ej=>by
       obtain rfl:w4.heap.size=j:=by simpa [Value.ownBlock] using ej
       exact Nat.le_refl _)
      replace hI:=Hd hI
      replace hn':=Hd hn'
      clear hown hgr
      go_wp2
      refine⟨?_,by simp[Ag]⟩
      unfold Ji
      exact⟨hA.out,j,v4,p',1::lq,cap',(R-n),Ac rfl,by omega,hb5.out.below hA2.out,hlt2.out,hI.out,hdq.cons (by omega),(fun e=>absurd (hn'.out e).1 (by simp)),⟨hcap,hcm⟩,by simp;omega,hinv2.out⟩
theorem Nd (va vb:Value) (m n:Nat) (w:World) (ha:Av w va m) (hb:Av w vb n) (hm:m<2^800) (hn0:0<n) (hn:n<2^800):
  Calls Tryz.prog 180 #[va,vb] w fun e w'=>∃v1 v2,e= .returned (.tuple #[v1,v2])/\Av w' v1 (m/n)/\Av w' v2 (m%n)/\Below w.heap.size w w':=by
 obtain⟨p,a,ca,rfl,_,_,_,hia,hda,hca,rfl⟩:=ha
 exact parts_w p a ca n vb w hia hb hda (D9 hca hm) hn0 hn
theorem C5 {w:World} {v:Value} {n:Nat} (h:Av w v n):∃(p:Option Addr) (l:List Int) (cap:Nat),v= .slice p l.length cap/\(0<l.length↔0<n)/\l.length<=1000:=by
 obtain⟨p,l,cap,rfl,_,hl,_,_,hd,hc,rfl⟩:=h
 refine⟨p,l,cap,rfl,⟨fun h=>Nat.lt_of_lt_of_le (Nat.pos_of_ne_zero (by simp)) (Me hc (by rintro rfl;simp at h)),fun h=> ?_⟩,hl⟩
 rcases Nat.eq_zero_or_pos l.length with h1|h1
 ·have:l= []:=List.length_eq_zero_iff.1 h1
  subst this
  simp[Aq] at h
 ·exact h1
theorem Dh (b:Bool) (v:Value) (n:Nat) (w:World) (h:Av w v n):
  Cb 110 #[.bool b,v] w (.agg #[.bool (b&&decide (0<n)),v]):=by
 obtain⟨p,l,cap,rfl,hp,hl⟩:=C5 h
 replace hp:=Hd hp
 clear h
 go_enter Tryz.func110,Tryz.ntmps110
 cases b with
 |false=>
  go_wp2
  refine bodyPost_ret (v:= .agg #[.bool false,.slice p l.length cap]) (by simp[results,Tryz.results110,go_sem]) rfl ⟨rfl,(Below.refl _ _).alloc (Nat.le_refl _) _⟩
 |true=>
  go_wp2
  refine bodyPost_ret (v:= .agg #[.bool (decide (0<l.length)),.slice p l.length cap]) (by simp[results,Tryz.results110,go_sem]) rfl ⟨by simp[hp.out],(Below.refl _ _).alloc (Nat.le_refl _) _⟩
theorem valD_from {l:List Int} (h:Dig l) (f:Nat):Aq (l.drop f)=Aq l/2^f:=by
 rcases Nat.lt_or_ge l.length f with h1|h1
 ·rw[List.drop_eq_nil_of_le (by omega)]
  have:=Gv h (Nat.le_of_lt h1)
  rw[Nat.div_eq_of_lt this]
  rfl
 ·have e:=Mu (l:=l) (k:=f) h1
  have hb:=Gv (h.take f) (k:=f) (by simp;omega)
  rw[e,Nat.add_mul_div_left _ _ (Nat.pow_pos (by omega)),Nat.div_eq_of_lt hb,Nat.zero_add]
theorem mod_step {x y P:Nat} (hy:y<2):(y+2*x)%(2*P)=y+2*(x%P):=by
 rcases Nat.eq_zero_or_pos P with rfl|hP
 ·simp
 ·have e:=Nat.div_add_mod x P
  have hm:=Nat.mod_lt x hP
  have:y+2*x=(y+2*(x%P))+2*P*(x/P):=by
   rw[Nat.mul_assoc]
   omega
  rw[this,Nat.add_mul_mod_self_left,Nat.mod_eq_of_lt (by omega)]
theorem O1 {l:List Int} {i k acc y:Nat} (hy:y<2) (hk:k<64) (hd:Aq (l.drop i)=y+2*Aq (l.drop (i+1))) (ha:acc=Aq (l.drop (i+1))%2^(64-(k+1))):
  y+2*acc=Aq (l.drop i)%2^(64-k):=by
 rw[hd,ha,show 64-k=(64-(k+1))+1 by omega,Nat.pow_succ,Nat.mul_comm (2^_) 2,mod_step hy]
def Nk (w:World) (p:Option Addr) (l:List Int) (cap f:Nat) (a':Act) (W:World):Prop:=
 Below w.heap.size w W/\∃k acc:Nat,(∃u:Nat->Value,a'= {tmps:= #[.slice p l.length cap,.int .i64 (f:Int),u 2,u 3,u 4,.int .u64 (acc:Int),.int .i64 (((f+k:Nat):Int)-1),u 7,u 8,u 9,u 10,u 11,u 12,u 13,u 14,u 15,u 16,u 17,u 18,u 19,u 20,u 21,u 22,u 23,u 24,u 25,u 26,u 27,u 28,u 29],defers:= []})/\k<=64/\acc=Aq (l.drop (f+k))%2^(64-k)
theorem word_w (p:Option Addr) (l:List Int) (cap f:Nat) (w:World) (hi:Ci w p l) (hd:Dig l) (hl:l.length<=1000) (hf:f<=64):
  Cb 150 #[.slice p l.length cap,.int .i64 (f:Int)] w (.int .u64 ((Aq l/2^f%2^64:Nat):Int)):=by
 go_enter Tryz.func150,Tryz.ntmps150
 go_wp2
 refine wp_loop (Nk w p l cap f) (fun a' _=>((Ag (a'.tmps.getD 6 undef))+1).toNat-f) ?_ ?_
 ·unfold Nk
  refine⟨Below.refl _ _,64,0,?_,Nat.le_refl _,by simp[Nat.mod_one]⟩
  rw[show ((f+64:Nat):Int)-1=(f:Int)+63 by omega]
  exact Ac rfl
 ·rintro a' W ⟨hW,k,acc,⟨u,rfl⟩,hk,hacc⟩
  have hz:=hW.size
  replace hacc:=Hd hacc
  cases k with
  |zero=>
   rw[show ((f+0:Nat):Int)-1=(f:Int)-1 by omega]
   have hres:=Hd (show ((Aq l/2^f%2^64:Nat):Int)=(acc:Int) by rw[hacc.out,<-valD_from hd];rfl)
   go_wp2
   go_ret
   exact⟨by rw[hres.out];rfl,hW⟩
  |succ k=>
   obtain⟨I,hI⟩:∃I,I=f+k:=⟨_,rfl⟩
   rw[show ((f+(k+1):Nat):Int)-1=(I:Int) by omega]
   have hge:f<=I:=by omega
   have hIl:I<=200:=by omega
   have hE:=Hd hI
   have hacc2:=Hd (show acc=Aq (l.drop (I+1))%2^(64-(k+1)) by rw[hacc.out,hE.out];rfl)
   have hab:acc<9223372036854775808:=by
    rw[hacc2.out]
    exact Nat.lt_of_lt_of_le (Nat.mod_lt _ (Nat.pow_pos (by omega))) (Nat.pow_le_pow_right (n:=2) (by omega) (show 64-(k+1)<=63 by omega))
   clear hI hacc
   by_cases hlt:I<l.length
   ·obtain⟨y,hy⟩:∃y,l[I]? =some y:=⟨l[I],List.getElem?_eq_getElem hlt⟩
    obtain⟨g,o,rfl,q⟩:=(hi.below hW).at' _ y hy
    have hs:=Hd (O3 hy)
    have by01:=hd.at hy
    clear hy
    rcases by01 with rfl|rfl
    ·have hn:=Hd (O1 (y:=0) (k:=k) (by omega) (by omega) hs.out hacc2.out)
     go_wp2
     refine⟨?_,by simp[Ag];omega⟩
     rw[hE.out,show (acc:Int)*2=((0+2*acc:Nat):Int) by omega]
     unfold Nk
     exact⟨hW,k,0+2*acc,Ac rfl,by omega,by rw[hn.out,hE.out]⟩
    ·have hn:=Hd (O1 (y:=1) (k:=k) (by omega) (by omega) hs.out hacc2.out)
     go_wp2
     refine⟨?_,by simp[Ag];omega⟩
     rw[hE.out,show (acc:Int)*2+1=((1+2*acc:Nat):Int) by omega]
     unfold Nk
     exact⟨hW,k,1+2*acc,Ac rfl,by omega,by rw[hn.out,hE.out]⟩
   ·have hs:=Hd (show Aq (l.drop I)=0+2*Aq (l.drop (I+1)) by rw[List.drop_eq_nil_of_le (by omega),List.drop_eq_nil_of_le (by omega)];rfl)
    have hn:=Hd (O1 (y:=0) (k:=k) (by omega) (by omega) hs.out hacc2.out)
    go_wp2
    refine⟨?_,by simp[Ag];omega⟩
    rw[hE.out,show (acc:Int)*2=((0+2*acc:Nat):Int) by omega]
    unfold Nk
    exact⟨hW,k,0+2*acc,Ac rfl,by omega,by rw[hn.out,hE.out]⟩
theorem c_word (v:Value) (n f:Nat) (w:World) (h:Av w v n) (hf:f<=64):
  Cb 150 #[v,.int .i64 (f:Int)] w (.int .u64 ((n/2^f%2^64:Nat):Int)):=by
 obtain⟨p,l,cap,rfl,_,hl,_,hi,hd,_,rfl⟩:=h
 exact word_w p l cap f w hi hd hl hf
def B3 (w:World) (v:Value) (z:Int):Prop:=∃sz,v= .agg #[.bool (decide (z<0)),sz]/\Av w sz z.natAbs
theorem B3.below {w w':World} {v:Value} {z:Int} (h:B3 w v z) (hb:Below w.heap.size w w'):B3 w' v z:=by
 obtain⟨sz,h1,h2⟩:=h
 exact⟨sz,h1,h2.below hb⟩
theorem B3.rex {L:List Nat} {w w':World} {v:Value} {z:Int} (h:B3 w v z) (hr:Rex L w w') (hL:L= []):B3 w' v z:=by subst hL;exact h.below hr.below
theorem B3.drew {w:World} {v:Value} {z:Int} (h:B3 w v z):B3 w.drew v z:=by
 obtain⟨sz,h1,h2⟩:=h
 exact⟨sz,h1,h2.drew⟩
theorem ty_setCell {w:World} {a:Addr} {cur:Array Value} {T:TypeId} {fz:Nat×Nat} (h:w.heap[a.block]? =some (.cells cur T fz)) (v:Value):∃cur' fz',(w.setCell a v).heap[a.block]? =some (.cells cur' T fz'):=by
 simp only[World.setCell,Array.getElem?_modify]
 rw[if_pos trivial,h]
 exact⟨_,_,rfl⟩
theorem Ci.set {w:World} {p:Option Addr} {l:List Int} (h:Ci w p l) {a:Addr} {u:Value} (ha:w.cell? a=some u) (hu:∀x,u≠ .int .i64 x) (v:Value):Ci (w.setCell a v) p l:=⟨fun i x hx=>by
 obtain⟨b,o,e,hc⟩:=h.at' i x hx
 refine⟨b,o,e,?_⟩
 rw[World.cell?_setCell_other]
 ·exact hc
 ·rintro rfl
  rw[hc] at ha
  cases ha
  exact hu x rfl,fun b e=>by
 obtain⟨cur,fz,hh⟩:=h.typ b e
 by_cases hb:b.block=a.block
 ·rw[hb] at hh⊢
  exact ty_setCell hh v
 ·exact⟨cur,fz,(heap_setCell_other w a b.block v hb).trans hh⟩⟩
theorem Av.set {w:World} {v:Value} {n:Nat} (h:Av w v n) {a:Addr} {u:Value} (ha:w.cell? a=some u) (hu:∀x,u≠ .int .i64 x) (v1:Value):Av (w.setCell a v1) v n:=by
 obtain⟨p,l,cap,h1,h2,h3,h4,h5,h6⟩:=h
 exact⟨p,l,cap,h1,h2,h3,h4,h5.set ha hu v1,h6⟩
theorem Av.store {w:World} {v:Value} {n g c d:Nat} {b:Bool} {p:Option Addr} {T:TypeId} (h:Av w v n) (hb:Blk w g #[.bool b,.slice p c d] T) (v0 v1:Value):
  Av ((w.setCell ⟨g,0,none⟩ v0).setCell ⟨g,1,none⟩ v1) v n:=by
 refine(h.set (hb.cell 0) (by intro x e;cases e) v0).set ((hb.set 0 v0).cell 1) (u:= .slice p c d) ?_ v1
 intro x e
 cases e
theorem En (n:Int) (w:World) (h1: -9223372036854775808<=n) (h2:n<=9223372036854775807):
  Calls Tryz.prog 64 #[.int .i64 n] w fun e w'=>∃v,e= .returned v/\B3 w' v n/\Below w.heap.size w w':=by
 by_cases hneg:n<0
 ·obtain⟨m,rfl⟩:∃m:Nat,n= -(m:Int):=⟨n.natAbs,by omega⟩
  obtain⟨s,hs⟩:∃s:Nat,s=18446744073709551616-m:=⟨_,rfl⟩
  have hs1:((s:Nat):Int)=18446744073709551616-(m:Int):=by omega
  have cS:=fun W=>c_Size s W (by omega)
  have hw:=Hd (show IntKind.u64.wrap (-(m:Int))=((s:Nat):Int) by simp[IntKind.wrap,IntKind.signed,IntKind.bits];omega)
  have hm0:0<m:=by omega
  replace hs1:=Hd hs1
  clear hs
  go_enter Tryz.func64,Tryz.ntmps64
  go_wp2_with fail
  rw[hw.out]
  go_wp2_with fail
  refine(cS _).mono ?_
  rintro e w1 ⟨v1,rfl,hq1,hb1⟩
  have z2:=hb1.size
  try simp at z2
  refine Aj w w1 (Bc w.heap.size #[.bool false,.slice none 0 0] 115<|Bz) ?_
  rintro hW z3 ⟨⟨b1,yb1,k1,f1⟩,-⟩
  obtain⟨p1,l1,k1',rfl,_,hl1⟩:=C5 hq1
  replace hq1:=Hd hq1
  go_wp2_with fail
  refine(Qu 64 _ (by omega)).mono ?_
  rintro e w4 ⟨v2,rfl,hq2,hb4⟩
  have z5:=hb4.size
  try simp at z5
  clear k1 f1
  refine Aj w w4 (Bc w.heap.size #[.bool false,.slice none 0 0] 115<|Bz) ?_
  clear b1 hW
  rintro hW z6 ⟨⟨b1,yb1,k1,f1⟩,-⟩
  replace hq2:=Hd hq2
  replace hq1:=Hd (hq1.out.below hb4)
  have cm:=Hd (Kh _ _ (2^64) s w4 hq2.out hq1.out (J9 64 900 (by omega)) (by have:=hs1.out;omega))
  go_wp2_with fail
  refine(cm.out).mono ?_
  rintro e w7 ⟨v3,rfl,hq3,hb7⟩
  have z8:=hb7.size
  try simp at z8
  clear k1 f1
  refine Aj w w7 (Bc w.heap.size #[.bool false,.slice none 0 0] 115<|Bz) ?_
  clear b1 hW
  rintro hW z9 ⟨⟨b1,yb1,k1,f1⟩,-⟩
  obtain⟨p3,l3,k3',rfl,_,hl3⟩:=C5 hq3
  rw[show 2^64-s=m by have:=hs1.out;omega] at hq3
  replace hq3:=Hd hq3
  go_wp2_with fail
  refine(Dh true _ m _ hq3.out).mono ?_
  rintro e w10 ⟨rfl,hb10⟩
  have z11:=hb10.size
  try simp at z11
  clear k1 f1
  refine Aj w w10 (Bc w.heap.size #[.bool false,.slice none 0 0] 115<|Bz) ?_
  clear b1 hW
  rintro hW z12 ⟨⟨b1,yb1,k1,f1⟩,-⟩
  replace hq3:=Hd (hq3.out.below hb10)
  go_wp2
  refine bodyPost_ret (v:= .agg #[.bool (true&&decide (0<m)),.slice p3 l3.length k3']) (by simp[results,Tryz.results64,go_sem,k1,f1,hm0]) rfl ⟨_,rfl,⟨.slice p3 l3.length k3',by simp[hm0],?_⟩,by exact Aa⟩
  have hS:=hq3.out.store b1 (.bool (true&&decide (0<m))) (.slice p3 l3.length k3')
  simpa [hm0] using hS
 ·obtain⟨m,rfl⟩:∃m:Nat,n=(m:Int):=⟨n.toNat,by omega⟩
  have cS:=fun W=>c_Size m W (by omega)
  go_enter Tryz.func64,Tryz.ntmps64
  go_wp2_with fail
  refine(cS _).mono ?_
  rintro e w1 ⟨v1,rfl,hq1,hb1⟩
  have z2:=hb1.size
  try simp at z2
  refine Aj w w1 (Bc w.heap.size #[.bool false,.slice none 0 0] 115<|Bz) ?_
  rintro hW z3 ⟨⟨b1,yb1,k1,f1⟩,-⟩
  obtain⟨p1,l1,k1',rfl,_,hl1⟩:=C5 hq1
  replace hq1:=Hd hq1
  go_wp2_with fail
  refine(Dh false _ m _ hq1.out).mono ?_
  rintro e w4 ⟨rfl,hb4⟩
  have z5:=hb4.size
  try simp at z5
  clear k1 f1
  refine Aj w w4 (Bc w.heap.size #[.bool false,.slice none 0 0] 115<|Bz) ?_
  clear b1 hW
  rintro hW z6 ⟨⟨b1,yb1,k1,f1⟩,-⟩
  replace hq1:=Hd (hq1.out.below hb4)
  go_wp2
  refine bodyPost_ret (v:= .agg #[.bool (false&&decide (0<m)),.slice p1 l1.length k1']) (by simp[results,Tryz.results64,go_sem,k1,f1]) rfl ⟨_,rfl,⟨.slice p1 l1.length k1',by simp,?_⟩,by exact Aa⟩
  have hS:=hq1.out.store b1 (.bool (false&&decide (0<m))) (.slice p1 l1.length k1')
  simpa using hS
attribute [local simp] Oper.looksAt Op.operands Call.operands Af Det Am
def BS (n:Nat):Bi:=fun v w=>Av w v n
theorem BS.closed (n:Nat):A9 [] (BS n):=fun _ _ _ hr h=>Av.rex h hr rfl
theorem BS.below {n:Nat} {v:Value} {w w':World} (h:BS n v w) (hr:Below w.heap.size w w'):BS n v w':=Av.below h hr
def NS (b:Bool) (n:Nat):Bi:=fun v w=>∃sz,v= .agg #[.bool (b&&decide (0<n)),sz]/\BS n sz w
theorem NS.closed (b:Bool) (n:Nat):A9 [] (NS b n):=fun _ _ _ hr ⟨sz,e,h⟩=>⟨sz,e,Av.rex h hr rfl⟩
theorem mul_w (sa sb:Bool) (pa pb:Option Addr) (la ca lb cb m n:Nat) (w:World) (ha:Av w (.slice pa la ca) m) (hb:Av w (.slice pb lb cb) n) (hm:m<2^400) (hn:n<2^400):
  Calls Tryz.prog 105 #[.agg #[.bool sa,.slice pa la ca],.agg #[.bool sb,.slice pb lb cb]] w fun e w'=>∃sz,e= .returned (.agg #[.bool ((sa !=sb)&&decide (0<m*n)),sz])/\Av w' sz (m*n)/\Below w.heap.size w w':=by
 go_enter Tryz.func105,Tryz.ntmps105
 go_upto_region 1 with(fail)
 refine Bd (fun W'=>Below w.heap.size w W'/\Blk W' w.heap.size #[.bool sa,.slice pa la ca] 115/\Blk W' (w.heap.size+1) #[.bool sb,.slice pb lb cb] 115/\Blk W' (w.heap.size+2) #[.bool false,.slice none 0 0] 115/\Av W' (.slice pa la ca) m/\Av W' (.slice pb lb cb) n) ⟨by exact Aa,by exact Bo,by exact Bo,by exact Bo,by exact ha.below Aa,by exact hb.below Aa⟩ ?_
 rintro W1 ⟨hW,b1,b2,b3,b4,b5⟩
 have z2:=hW.size
 have z3:=b1.lt
 have z4:=b2.lt
 have z5:=b3.lt
 refine Az 11 16 [] (fun W'=>Rex [] W1 W'/\Blk W' w.heap.size #[.bool sa,.slice pa la ca] 115/\Blk W' (w.heap.size+1) #[.bool sb,.slice pb lb cb] 115/\Blk W' (w.heap.size+2) #[.bool false,.slice none 0 0] 115/\Av W' (.slice pa la ca) m/\Av W' (.slice pb lb cb) n) Cu (by kernel_rfl) rfl ⟨(Rex.refl _ _).drew,b1,b2,b3,b4.drew,b5.drew⟩ (fun w w' ⟨h0,h1,h2,h3,h4,h5⟩ hr=>⟨h0.trans hr,h1.rex hr (by simp<;>omega),h2.rex hr (by simp<;>omega),h3.rex hr (by simp<;>omega),h4.rex hr (by simp<;>omega),h5.rex hr (by simp<;>omega)⟩) (fun c a d v w h=>by cases d<;>exact h) ?_
 iterate 9
  apply An (hg:=rfl) (hal:=rfl)
  ·intro a W' hC hE
   obtain⟨_,k1,k2,k3,k4,k5⟩:=hC
   have k1:=k1.cell
   have k2:=k2.cell
   first
    |(simp at hE;simp[go_sem,Act.eval,iw,hE,k1,k2,k3,k4,k5];try rfl)
    |(clear hE;simp[go_sem,Act.eval,iw,k1,k2,k3,k4,k5];try rfl)
 apply A5 (BS (m*n)) (hg:=rfl) (hal:=rfl)
 ·exact BS.closed _
 ·intro a W' hC hE
  refine⟨_,_,?_,(c_times (.slice pa la ca) (.slice pb lb cb) m n W' hC.2.2.2.2.1 hC.2.2.2.2.2 hm hn).mono ?_⟩
  ·simp at hE
   simp[go_sem,Act.eval,hE]
   try rfl
  ·rintro e w' ⟨v,rfl,hB,hR⟩
   exact⟨_,rfl,hR,hB⟩
 apply A5 (NS (sa !=sb) (m*n)) (hg:=rfl) (hal:=rfl)
 ·exact NS.closed _ _
 ·intro a W' hC hE
  simp at hE
  refine⟨_,_,?_,(Dh (sa !=sb) _ (m*n) W' hE.2).mono ?_⟩
  ·simp[go_sem,Act.eval,hE.1]
   try (cases sa<;>cases sb<;>rfl)
  ·rintro e w' ⟨rfl,hR⟩
   have hb:=BS.below hE.2 hR
   exact⟨_,rfl,hR,_,rfl,hb⟩
 rintro W2 ⟨hR,d1,d2,d3,d4,d5⟩
 simp only[A6,Det,forall_eq]
 intros
 repeat (rename Am _ _ _ _=>hgd;clear hgd)
 simp only[nS]
 clear b1 b2 b3 b4 b5
 have b1:=d1
 have b2:=d2
 have b3:=d3
 clear d1 d2 d3 d4 d5
 obtain⟨sz,rfl,hq⟩:= ‹NS _ _ _ _›
 obtain⟨p1,l1,k1',rfl,_,hl1⟩:=C5 hq
 replace hq:=Hd hq
 replace hW:=hW.trans (hR.of_priv hW.size)
 clear hR
 have k1:=b1.cell
 have f1:=b1.frozen
 have k2:=b2.cell
 have f2:=b2.frozen
 have k3:=b3.cell
 have f3:=b3.frozen
 have y_1:=b1.lt
 have y_2:=b2.lt
 have y_3:=b3.lt
 obtain⟨B,hB⟩:∃B,B=((sa !=sb)&&decide (0<m*n)):=⟨_,rfl⟩
 rw[<-hB]
 replace hB:=Hd hB
 go_wp2
 refine bodyPost_ret (v:= .agg #[.bool B,.slice p1 l1.length k1']) (by simp[results,Tryz.results105,go_sem,k1,f1,k2,f2,k3,f3,y_1,y_2,y_3]) rfl ⟨_,by rw[hB.out],?_,by exact Aa⟩
 have hS:=hq.out.store b3 (.bool B) (.slice p1 l1.length k1')
 simpa using hS
theorem Bm {w:World} {v:Value} {z:Int} (h:B3 w v z):∃p l c,v= .agg #[.bool (decide (z<0)),.slice p l c]/\Av w (.slice p l c) z.natAbs:=by
 obtain⟨sz,rfl,h⟩:=h
 obtain⟨p,l,cap,rfl,_⟩:=C5 h
 exact⟨_,_,_,rfl,h⟩
theorem Zr (va vb:Value) (x y:Int) (w:World) (ha:B3 w va x) (hb:B3 w vb y) (hx:x.natAbs<2^400) (hy:y.natAbs<2^400):
  Calls Tryz.prog 105 #[va,vb] w fun e w'=>∃v,e= .returned v/\B3 w' v (x*y)/\Below w.heap.size w w':=by
 obtain⟨pa,la,ca,rfl,ha'⟩:=Bm ha
 obtain⟨pb,lb,cb,rfl,hb'⟩:=Bm hb
 refine(mul_w _ _ pa pb la ca lb cb _ _ w ha' hb' hx hy).mono ?_
 rintro e w' ⟨sz,rfl,h,hB⟩
 rw[<-Int.natAbs_mul] at h
 refine⟨_,rfl,⟨sz,?_,h⟩,hB⟩
 congr 3
 rw[<-Int.natAbs_mul]
 rcases Int.lt_trichotomy x 0 with h1|rfl|h1
 ·rcases Int.lt_trichotomy y 0 with h2|rfl|h2
  ·have:=Int.mul_pos_of_neg_of_neg h1 h2
   simp[h1,h2];omega
  ·simp
  ·have:=Int.mul_neg_of_neg_of_pos h1 h2
   have h3:¬y<0:=by omega
   have h6:0<(x*y).natAbs:=by omega
   rw[decide_eq_true h1,decide_eq_false h3,decide_eq_true h6,decide_eq_true this];rfl
 ·simp
 ·have h3:¬x<0:=by omega
  rcases Int.lt_trichotomy y 0 with h2|rfl|h2
  ·have:=Int.mul_neg_of_pos_of_neg h1 h2
   have h6:0<(x*y).natAbs:=by omega
   rw[decide_eq_false h3,decide_eq_true h2,decide_eq_true h6,decide_eq_true this];rfl
  ·simp
  ·have:=Int.mul_pos h1 h2
   have h4:¬y<0:=by omega
   simp[h3,h4];omega
theorem fits_neg (pa:Option Addr) (la ca m k:Nat) (w:World) (ha:Av w (.slice pa la ca) m) (hm9:m<2^900) (hk:k<=890) (hk9:2^k<2^900) (e1:((k+1:Nat):Int)-1=(k:Int)) (e2:wrap64 (k:Int)=k):
  Cb 149 #[.agg #[.bool true,.slice pa la ca],.int .i64 ((k+1:Nat):Int)] w (.bool (!decide (2^k<m))):=by
 have H_e1:=Hd e1
 clear e1
 have H_e2:=Hd e2
 clear e2
 go_enter Tryz.func149,Tryz.ntmps149
 go_upto_region 2 with(fail)
 refine Bd (fun W'=>Below w.heap.size w W'/\Blk W' w.heap.size #[.bool true,.slice pa la ca] 115/\Av W' (.slice pa la ca) m) ⟨by exact Aa,by exact Bo,by exact ha.below Aa⟩ ?_
 rintro W1 ⟨hW,b1,b2⟩
 have z2:=hW.size
 have z3:=b1.lt
 have e1:=H_e1.out
 have e2:=H_e2.out
 refine Az 7 20 [] (fun W'=>Rex [] W1 W'/\Blk W' w.heap.size #[.bool true,.slice pa la ca] 115/\Av W' (.slice pa la ca) m) Cu (by kernel_rfl) rfl ⟨(Rex.refl _ _).drew,b1,b2.drew⟩ (fun w w' ⟨h0,h1,h2⟩ hr=>⟨h0.trans hr,h1.rex hr (by simp<;>omega),h2.rex hr (by simp<;>omega)⟩) (fun c a d v w h=>by cases d<;>exact h) ?_
 iterate 2
  apply An (hg:=rfl) (hal:=rfl)
  ·intro a W' hC hE
   obtain⟨_,k1,k2⟩:=hC
   have k1:=k1.cell
   first
    |(simp at hE;simp[go_sem,Act.eval,iw,hE,k1,k2,e1,e2];try rfl)
    |(clear hE;simp[go_sem,Act.eval,iw,k1,k2,e1,e2];try rfl)
 apply A5 (BS (2^k)) (hg:=rfl) (hal:=rfl)
 ·exact BS.closed _
 ·intro a W' hC hE
  refine⟨_,_,?_,(Qu k W' (by omega)).mono ?_⟩
  ·simp at hE
   simp[go_sem,Act.eval,hE,e2]
   try rfl
  ·rintro e w' ⟨v,rfl,hB,hR⟩
   exact⟨_,rfl,hR,hB⟩
 iterate 2
  apply An (hg:=rfl) (hal:=rfl)
  ·intro a W' hC hE
   obtain⟨_,k1,k2⟩:=hC
   have k1:=k1.cell
   first
    |(simp at hE;simp[go_sem,Act.eval,iw,hE,k1,k2,e1,e2];try rfl)
    |(clear hE;simp[go_sem,Act.eval,iw,k1,k2,e1,e2];try rfl)
 apply A5 (Det (.bool (decide (2^k<m)))) (hg:=rfl) (hal:=rfl)
 ·exact Gn _ _
 ·intro a W' hC hE
  simp at hE
  refine⟨_,_,?_,(Ls _ (.slice pa la ca) (2^k) m W' hE.1 hC.2.2 hk9 hm9).mono ?_⟩
  ·simp[go_sem,Act.eval,hE.2]
   try rfl
  ·rintro e w' ⟨rfl,hR⟩
   exact⟨_,rfl,hR,rfl⟩
 iterate 1
  apply An (hg:=rfl) (hal:=rfl)
  ·intro a W' hC hE
   obtain⟨_,k1,k2⟩:=hC
   have k1:=k1.cell
   first
    |(simp at hE;simp[go_sem,Act.eval,iw,hE,k1,k2,e1,e2];try rfl)
    |(clear hE;simp[go_sem,Act.eval,iw,k1,k2,e1,e2];try rfl)
 rintro W2 ⟨hR,d1,d2⟩
 simp only[A6,Det,forall_eq]
 intros
 repeat (rename Am _ _ _ _=>hgd;clear hgd)
 simp only[nS]
 clear b1 b2 e1 e2 d2
 have b1:=d1
 clear d1
 replace hW:=hW.trans (hR.of_priv hW.size)
 clear hR
 have k1:=b1.cell
 have f1:=b1.frozen
 go_wp2
 go_ret
 exact⟨rfl,hW⟩
theorem fits_pos (pa:Option Addr) (la ca m k:Nat) (w:World) (ha:Av w (.slice pa la ca) m) (hm9:m<2^900) (hk:k<=890) (hk9:2^k<2^900) (e1:((k+1:Nat):Int)-1=(k:Int)) (e2:wrap64 (k:Int)=k):
  Cb 149 #[.agg #[.bool false,.slice pa la ca],.int .i64 ((k+1:Nat):Int)] w (.bool (decide (m<2^k))):=by
 have H_e1:=Hd e1
 clear e1
 have H_e2:=Hd e2
 clear e2
 go_enter Tryz.func149,Tryz.ntmps149
 go_upto_region 3 with(fail)
 refine Bd (fun W'=>Below w.heap.size w W'/\Blk W' w.heap.size #[.bool false,.slice pa la ca] 115/\Av W' (.slice pa la ca) m) ⟨by exact Aa,by exact Bo,by exact ha.below Aa⟩ ?_
 rintro W1 ⟨hW,b1,b2⟩
 have z2:=hW.size
 have z3:=b1.lt
 have e1:=H_e1.out
 have e2:=H_e2.out
 refine Az 6 20 [] (fun W'=>Rex [] W1 W'/\Blk W' w.heap.size #[.bool false,.slice pa la ca] 115/\Av W' (.slice pa la ca) m) Cu (by kernel_rfl) rfl ⟨(Rex.refl _ _).drew,b1,b2.drew⟩ (fun w w' ⟨h0,h1,h2⟩ hr=>⟨h0.trans hr,h1.rex hr (by simp<;>omega),h2.rex hr (by simp<;>omega)⟩) (fun c a d v w h=>by cases d<;>exact h) ?_
 iterate 4
  apply An (hg:=rfl) (hal:=rfl)
  ·intro a W' hC hE
   obtain⟨_,k1,k2⟩:=hC
   have k1:=k1.cell
   first
    |(simp at hE;simp[go_sem,Act.eval,iw,hE,k1,k2,e1,e2];try rfl)
    |(clear hE;simp[go_sem,Act.eval,iw,k1,k2,e1,e2];try rfl)
 apply A5 (BS (2^k)) (hg:=rfl) (hal:=rfl)
 ·exact BS.closed _
 ·intro a W' hC hE
  refine⟨_,_,?_,(Qu k W' (by omega)).mono ?_⟩
  ·simp at hE
   simp[go_sem,Act.eval,hE,e2]
   try rfl
  ·rintro e w' ⟨v,rfl,hB,hR⟩
   exact⟨_,rfl,hR,hB⟩
 apply A5 (Det (.bool (decide (m<2^k)))) (hg:=rfl) (hal:=rfl)
 ·exact Gn _ _
 ·intro a W' hC hE
  simp at hE
  refine⟨_,_,?_,(Ls (.slice pa la ca) _ m (2^k) W' hC.2.2 hE.2 hm9 hk9).mono ?_⟩
  ·simp[go_sem,Act.eval,hE.1]
   try rfl
  ·rintro e w' ⟨rfl,hR⟩
   exact⟨_,rfl,hR,rfl⟩
 rintro W2 ⟨hR,d1,d2⟩
 simp only[A6,Det,forall_eq]
 intros
 repeat (rename Am _ _ _ _=>hgd;clear hgd)
 simp only[nS]
 clear b1 b2 e1 e2 d2
 have b1:=d1
 clear d1
 replace hW:=hW.trans (hR.of_priv hW.size)
 clear hR
 have k1:=b1.cell
 have f1:=b1.frozen
 go_wp2
 go_ret
 exact⟨rfl,hW⟩
theorem c_refFits (va:Value) (z:Int) (k:Nat) (w:World) (h:B3 w va z) (hz:z.natAbs<2^900) (hk:k<=890):
  Calls Tryz.prog 149 #[va,.int .i64 ((k+1:Nat):Int)] w fun e w'=>e= .returned (.bool (decide (-((2^k:Nat):Int)<=z/\z<((2^k:Nat):Int))))/\Below w.heap.size w w':=by
 obtain⟨pa,la,ca,rfl,h'⟩:=Bm h
 have hk9:2^k<2^900:=J9 k 900 (by omega)
 have e1:((k+1:Nat):Int)-1=(k:Int):=by omega
 have e2:wrap64 (k:Int)=k:=by simp[wrap64];omega
 by_cases hn:z<0
 ·rw[decide_eq_true hn]
  refine(fits_neg pa la ca z.natAbs k w h' hz hk hk9 e1 e2).mono ?_
  rintro e w' ⟨rfl,hB⟩
  refine⟨?_,hB⟩
  congr 2
  generalize 2^k=P at*
  rcases Nat.lt_or_ge P z.natAbs with h3|h3
  ·rw[decide_eq_true h3,decide_eq_false (by omega)];rfl
  ·rw[decide_eq_false (by omega),decide_eq_true (by omega)];rfl
 ·rw[decide_eq_false hn]
  refine(fits_pos pa la ca z.natAbs k w h' hz hk hk9 e1 e2).mono ?_
  rintro e w' ⟨rfl,hB⟩
  refine⟨?_,hB⟩
  congr 2
  generalize 2^k=P at*
  exact decide_eq_decide.2 ⟨fun h4=>by omega,fun h4=>by omega⟩
theorem add_same (sa:Bool) (pa pb:Option Addr) (la ca lb cb m n:Nat) (w:World) (ha:Av w (.slice pa la ca) m) (hb:Av w (.slice pb lb cb) n) (hm:m<2^900) (hn:n<2^900):
  Calls Tryz.prog 66 #[.agg #[.bool sa,.slice pa la ca],.agg #[.bool (sa),.slice pb lb cb]] w fun e w'=>∃sz,e= .returned (.agg #[.bool ((sa)&&decide (0<m+n)),sz])/\Av w' sz (m+n)/\Below w.heap.size w w':=by
 go_enter Tryz.func66,Tryz.ntmps66
 go_upto_region 2 with(fail)
 refine Bd (fun W'=>Below w.heap.size w W'/\Blk W' w.heap.size #[.bool sa,.slice pa la ca] 115/\Blk W' (w.heap.size+1) #[.bool sa,.slice pb lb cb] 115/\Blk W' (w.heap.size+2) #[.bool false,.slice none 0 0] 115/\Av W' (.slice pa la ca) m/\Av W' (.slice pb lb cb) n) ⟨by exact Aa,by exact Bo,by exact Bo,by exact Bo,by exact ha.below Aa,by exact hb.below Aa⟩ ?_
 rintro W1 ⟨hW,b1,b2,b3,b4,b5⟩
 have z2:=hW.size
 have z3:=b1.lt
 have z4:=b2.lt
 have z5:=b3.lt
 refine Az 8 39 [] (fun W'=>Rex [] W1 W'/\Blk W' w.heap.size #[.bool sa,.slice pa la ca] 115/\Blk W' (w.heap.size+1) #[.bool sa,.slice pb lb cb] 115/\Blk W' (w.heap.size+2) #[.bool false,.slice none 0 0] 115/\Av W' (.slice pa la ca) m/\Av W' (.slice pb lb cb) n) Cu (by kernel_rfl) rfl ⟨(Rex.refl _ _).drew,b1,b2,b3,b4.drew,b5.drew⟩ (fun w w' ⟨h0,h1,h2,h3,h4,h5⟩ hr=>⟨h0.trans hr,h1.rex hr (by simp<;>omega),h2.rex hr (by simp<;>omega),h3.rex hr (by simp<;>omega),h4.rex hr (by simp<;>omega),h5.rex hr (by simp<;>omega)⟩) (fun c a d v w h=>by cases d<;>exact h) ?_
 iterate 6
  apply An (hg:=rfl) (hal:=rfl)
  ·intro a W' hC hE
   obtain⟨_,k1,k2,k3,k4,k5⟩:=hC
   have k1:=k1.cell
   have k2:=k2.cell
   first
    |(simp at hE;simp[go_sem,Act.eval,iw,hE,k1,k2,k3,k4,k5];try rfl)
    |(clear hE;simp[go_sem,Act.eval,iw,k1,k2,k3,k4,k5];try rfl)
 apply A5 (BS (m+n)) (hg:=rfl) (hal:=rfl)
 ·exact BS.closed _
 ·intro a W' hC hE
  refine⟨_,_,?_,(Xf (.slice pa la ca) (.slice pb lb cb) m n W' hC.2.2.2.2.1 hC.2.2.2.2.2 hm hn).mono ?_⟩
  ·simp at hE
   simp[go_sem,Act.eval,hE]
   try rfl
  ·rintro e w' ⟨v,rfl,hB,hR⟩
   exact⟨_,rfl,hR,hB⟩
 apply A5 (NS sa (m+n)) (hg:=rfl) (hal:=rfl)
 ·exact NS.closed _ _
 ·intro a W' hC hE
  simp at hE
  refine⟨_,_,?_,(Dh sa _ (m+n) W' hE.2).mono ?_⟩
  ·simp[go_sem,Act.eval,hE.1]
   try rfl
  ·rintro e w' ⟨rfl,hR⟩
   have hb:=BS.below hE.2 hR
   exact⟨_,rfl,hR,_,rfl,hb⟩
 rintro W2 ⟨hR,d1,d2,d3,d4,d5⟩
 simp only[A6,Det,forall_eq]
 intros
 repeat (rename Am _ _ _ _=>hgd;clear hgd)
 simp only[nS]
 clear b1 b2 b3 b4 b5
 have b1:=d1
 have b2:=d2
 have b3:=d3
 clear d1 d2 d3 d4 d5
 obtain⟨sz,rfl,hq⟩:= ‹NS _ _ _ _›
 obtain⟨p1,l1,k1',rfl,_,hl1⟩:=C5 hq
 replace hq:=Hd hq
 replace hW:=hW.trans (hR.of_priv hW.size)
 clear hR
 have k1:=b1.cell
 have f1:=b1.frozen
 have k2:=b2.cell
 have f2:=b2.frozen
 have k3:=b3.cell
 have f3:=b3.frozen
 have y_1:=b1.lt
 have y_2:=b2.lt
 have y_3:=b3.lt
 obtain⟨B,hB⟩:∃B,B=(sa&&decide (0<(m+n))):=⟨_,rfl⟩
 rw[<-hB]
 replace hB:=Hd hB
 go_wp2
 refine bodyPost_ret (v:= .agg #[.bool B,.slice p1 l1.length k1']) (by simp[results,Tryz.results66,go_sem,k1,f1,k2,f2,k3,f3,y_1,y_2,y_3]) rfl ⟨_,by rw[hB.out],?_,by exact Aa⟩
 have hS:=hq.out.store b3 (.bool B) (.slice p1 l1.length k1')
 simpa using hS
theorem add_less (sa:Bool) (pa pb:Option Addr) (la ca lb cb m n:Nat) (w:World) (ha:Av w (.slice pa la ca) m) (hb:Av w (.slice pb lb cb) n) (hm:m<2^900) (hn:n<2^900) (hle:m<=n) (e1:decide (m<n)=true):
  Calls Tryz.prog 66 #[.agg #[.bool sa,.slice pa la ca],.agg #[.bool (!sa),.slice pb lb cb]] w fun e w'=>∃sz,e= .returned (.agg #[.bool ((!sa)&&decide (0<n-m)),sz])/\Av w' sz (n-m)/\Below w.heap.size w w':=by
 have H_e1:=Hd e1
 clear e1
 go_enter Tryz.func66,Tryz.ntmps66
 go_wp2_with fail
 refine(Ls (.slice pa la ca) (.slice pb lb cb) m n _ (ha.below Aa) (hb.below Aa) hm hn).mono ?_
 rintro e w1 ⟨rfl,hb1⟩
 have z2:=hb1.size
 try simp at z2
 have b1:Blk w1 w.heap.size #[.bool sa,.slice pa la ca] 115:=Bo
 have b2:Blk w1 (w.heap.size+1) #[.bool (!sa),.slice pb lb cb] 115:=Bo
 have b3:Blk w1 (w.heap.size+2) #[.bool false,.slice none 0 0] 115:=Bo
 have hW:Below w.heap.size w w1:=Aa
 have z3:=b1.lt
 have z4:=b2.lt
 have z5:=b3.lt
 clear hb1
 have k1:=b1.cell
 have f1:=b1.frozen
 have k2:=b2.cell
 have f2:=b2.frozen
 have k3:=b3.cell
 have f3:=b3.frozen
 rw[H_e1.out]
 go_upto_region 4 with(fail)
 clear k1 f1 k2 f2 k3 f3
 refine Bd (fun W'=>Below w.heap.size w W'/\Blk W' w.heap.size #[.bool sa,.slice pa la ca] 115/\Blk W' (w.heap.size+1) #[.bool (!sa),.slice pb lb cb] 115/\Blk W' (w.heap.size+2) #[.bool false,.slice none 0 0] 115/\Av W' (.slice pa la ca) m/\Av W' (.slice pb lb cb) n) ⟨by exact Aa,by exact Bo,by exact Bo,by exact Bo,by exact ha.below Aa,by exact hb.below Aa⟩ ?_
 clear b1 b2 b3 hW
 rintro W6 ⟨hW,b1,b2,b3,b4,b5⟩
 have z7:=hW.size
 have z8:=b1.lt
 have z9:=b2.lt
 have z10:=b3.lt
 refine Az 8 39 [] (fun W'=>Rex [] W6 W'/\Blk W' w.heap.size #[.bool sa,.slice pa la ca] 115/\Blk W' (w.heap.size+1) #[.bool (!sa),.slice pb lb cb] 115/\Blk W' (w.heap.size+2) #[.bool false,.slice none 0 0] 115/\Av W' (.slice pa la ca) m/\Av W' (.slice pb lb cb) n) Cu (by kernel_rfl) rfl ⟨(Rex.refl _ _).drew,b1,b2,b3,b4.drew,b5.drew⟩ (fun w w' ⟨h0,h1,h2,h3,h4,h5⟩ hr=>⟨h0.trans hr,h1.rex hr (by simp<;>omega),h2.rex hr (by simp<;>omega),h3.rex hr (by simp<;>omega),h4.rex hr (by simp<;>omega),h5.rex hr (by simp<;>omega)⟩) (fun c a d v w h=>by cases d<;>exact h) ?_
 iterate 6
  apply An (hg:=rfl) (hal:=rfl)
  ·intro a W' hC hE
   obtain⟨_,k1,k2,k3,k4,k5⟩:=hC
   have k1:=k1.cell
   have k2:=k2.cell
   first
    |(simp at hE;simp[go_sem,Act.eval,iw,hE,k1,k2,k3,k4,k5];try rfl)
    |(clear hE;simp[go_sem,Act.eval,iw,k1,k2,k3,k4,k5];try rfl)
 apply A5 (BS (n-m)) (hg:=rfl) (hal:=rfl)
 ·exact BS.closed _
 ·intro a W' hC hE
  refine⟨_,_,?_,(Kh (.slice pb lb cb) (.slice pa la ca) n m W' hC.2.2.2.2.2 hC.2.2.2.2.1 hn hle).mono ?_⟩
  ·simp at hE
   simp[go_sem,Act.eval,hE]
   try rfl
  ·rintro e w' ⟨v,rfl,hB,hR⟩
   exact⟨_,rfl,hR,hB⟩
 apply A5 (NS (!sa) (n-m)) (hg:=rfl) (hal:=rfl)
 ·exact NS.closed _ _
 ·intro a W' hC hE
  simp at hE
  refine⟨_,_,?_,(Dh (!sa) _ (n-m) W' hE.2).mono ?_⟩
  ·simp[go_sem,Act.eval,hE.1]
   try rfl
  ·rintro e w' ⟨rfl,hR⟩
   have hb:=BS.below hE.2 hR
   exact⟨_,rfl,hR,_,rfl,hb⟩
 rintro W2 ⟨hR,d1,d2,d3,d4,d5⟩
 simp only[A6,Det,forall_eq]
 intros
 repeat (rename Am _ _ _ _=>hgd;clear hgd)
 simp only[nS]
 clear b1 b2 b3 b4 b5
 have b1:=d1
 have b2:=d2
 have b3:=d3
 clear d1 d2 d3 d4 d5
 obtain⟨sz,rfl,hq⟩:= ‹NS _ _ _ _›
 obtain⟨p1,l1,k1',rfl,_,hl1⟩:=C5 hq
 replace hq:=Hd hq
 replace hW:=hW.trans (hR.of_priv hW.size)
 clear hR
 have k1:=b1.cell
 have f1:=b1.frozen
 have k2:=b2.cell
 have f2:=b2.frozen
 have k3:=b3.cell
 have f3:=b3.frozen
 have y_1:=b1.lt
 have y_2:=b2.lt
 have y_3:=b3.lt
 obtain⟨B,hB⟩:∃B,B=((!sa)&&decide (0<(n-m))):=⟨_,rfl⟩
 rw[<-hB]
 replace hB:=Hd hB
 go_wp2
 refine bodyPost_ret (v:= .agg #[.bool B,.slice p1 l1.length k1']) (by simp[results,Tryz.results66,go_sem,k1,f1,k2,f2,k3,f3,y_1,y_2,y_3]) rfl ⟨_,by rw[hB.out],?_,by exact Aa⟩
 have hS:=hq.out.store b3 (.bool B) (.slice p1 l1.length k1')
 simpa using hS
theorem add_more (sa:Bool) (pa pb:Option Addr) (la ca lb cb m n:Nat) (w:World) (ha:Av w (.slice pa la ca) m) (hb:Av w (.slice pb lb cb) n) (hm:m<2^900) (hn:n<2^900) (hle:n<=m) (e1:decide (m<n)=false):
  Calls Tryz.prog 66 #[.agg #[.bool sa,.slice pa la ca],.agg #[.bool (!sa),.slice pb lb cb]] w fun e w'=>∃sz,e= .returned (.agg #[.bool ((sa)&&decide (0<m-n)),sz])/\Av w' sz (m-n)/\Below w.heap.size w w':=by
 have H_e1:=Hd e1
 clear e1
 go_enter Tryz.func66,Tryz.ntmps66
 go_wp2_with fail
 refine(Ls (.slice pa la ca) (.slice pb lb cb) m n _ (ha.below Aa) (hb.below Aa) hm hn).mono ?_
 rintro e w1 ⟨rfl,hb1⟩
 have z2:=hb1.size
 try simp at z2
 have b1:Blk w1 w.heap.size #[.bool sa,.slice pa la ca] 115:=Bo
 have b2:Blk w1 (w.heap.size+1) #[.bool (!sa),.slice pb lb cb] 115:=Bo
 have b3:Blk w1 (w.heap.size+2) #[.bool false,.slice none 0 0] 115:=Bo
 have hW:Below w.heap.size w w1:=Aa
 have z3:=b1.lt
 have z4:=b2.lt
 have z5:=b3.lt
 clear hb1
 have k1:=b1.cell
 have f1:=b1.frozen
 have k2:=b2.cell
 have f2:=b2.frozen
 have k3:=b3.cell
 have f3:=b3.frozen
 rw[H_e1.out]
 go_upto_region 5 with(fail)
 clear k1 f1 k2 f2 k3 f3
 refine Bd (fun W'=>Below w.heap.size w W'/\Blk W' w.heap.size #[.bool sa,.slice pa la ca] 115/\Blk W' (w.heap.size+1) #[.bool (!sa),.slice pb lb cb] 115/\Blk W' (w.heap.size+2) #[.bool false,.slice none 0 0] 115/\Av W' (.slice pa la ca) m/\Av W' (.slice pb lb cb) n) ⟨by exact Aa,by exact Bo,by exact Bo,by exact Bo,by exact ha.below Aa,by exact hb.below Aa⟩ ?_
 clear b1 b2 b3 hW
 rintro W6 ⟨hW,b1,b2,b3,b4,b5⟩
 have z7:=hW.size
 have z8:=b1.lt
 have z9:=b2.lt
 have z10:=b3.lt
 refine Az 8 39 [] (fun W'=>Rex [] W6 W'/\Blk W' w.heap.size #[.bool sa,.slice pa la ca] 115/\Blk W' (w.heap.size+1) #[.bool (!sa),.slice pb lb cb] 115/\Blk W' (w.heap.size+2) #[.bool false,.slice none 0 0] 115/\Av W' (.slice pa la ca) m/\Av W' (.slice pb lb cb) n) Cu (by kernel_rfl) rfl ⟨(Rex.refl _ _).drew,b1,b2,b3,b4.drew,b5.drew⟩ (fun w w' ⟨h0,h1,h2,h3,h4,h5⟩ hr=>⟨h0.trans hr,h1.rex hr (by simp<;>omega),h2.rex hr (by simp<;>omega),h3.rex hr (by simp<;>omega),h4.rex hr (by simp<;>omega),h5.rex hr (by simp<;>omega)⟩) (fun c a d v w h=>by cases d<;>exact h) ?_
 iterate 6
  apply An (hg:=rfl) (hal:=rfl)
  ·intro a W' hC hE
   obtain⟨_,k1,k2,k3,k4,k5⟩:=hC
   have k1:=k1.cell
   have k2:=k2.cell
   first
    |(simp at hE;simp[go_sem,Act.eval,iw,hE,k1,k2,k3,k4,k5];try rfl)
    |(clear hE;simp[go_sem,Act.eval,iw,k1,k2,k3,k4,k5];try rfl)
 apply A5 (BS (m-n)) (hg:=rfl) (hal:=rfl)
 ·exact BS.closed _
 ·intro a W' hC hE
  refine⟨_,_,?_,(Kh (.slice pa la ca) (.slice pb lb cb) m n W' hC.2.2.2.2.1 hC.2.2.2.2.2 hm hle).mono ?_⟩
  ·simp at hE
   simp[go_sem,Act.eval,hE]
   try rfl
  ·rintro e w' ⟨v,rfl,hB,hR⟩
   exact⟨_,rfl,hR,hB⟩
 apply A5 (NS sa (m-n)) (hg:=rfl) (hal:=rfl)
 ·exact NS.closed _ _
 ·intro a W' hC hE
  simp at hE
  refine⟨_,_,?_,(Dh sa _ (m-n) W' hE.2).mono ?_⟩
  ·simp[go_sem,Act.eval,hE.1]
   try rfl
  ·rintro e w' ⟨rfl,hR⟩
   have hb:=BS.below hE.2 hR
   exact⟨_,rfl,hR,_,rfl,hb⟩
 rintro W2 ⟨hR,d1,d2,d3,d4,d5⟩
 simp only[A6,Det,forall_eq]
 intros
 repeat (rename Am _ _ _ _=>hgd;clear hgd)
 simp only[nS]
 clear b1 b2 b3 b4 b5
 have b1:=d1
 have b2:=d2
 have b3:=d3
 clear d1 d2 d3 d4 d5
 obtain⟨sz,rfl,hq⟩:= ‹NS _ _ _ _›
 obtain⟨p1,l1,k1',rfl,_,hl1⟩:=C5 hq
 replace hq:=Hd hq
 replace hW:=hW.trans (hR.of_priv hW.size)
 clear hR
 have k1:=b1.cell
 have f1:=b1.frozen
 have k2:=b2.cell
 have f2:=b2.frozen
 have k3:=b3.cell
 have f3:=b3.frozen
 have y_1:=b1.lt
 have y_2:=b2.lt
 have y_3:=b3.lt
 obtain⟨B,hB⟩:∃B,B=(sa&&decide (0<(m-n))):=⟨_,rfl⟩
 rw[<-hB]
 replace hB:=Hd hB
 go_wp2
 refine bodyPost_ret (v:= .agg #[.bool B,.slice p1 l1.length k1']) (by simp[results,Tryz.results66,go_sem,k1,f1,k2,f2,k3,f3,y_1,y_2,y_3]) rfl ⟨_,by rw[hB.out],?_,by exact Aa⟩
 have hS:=hq.out.store b3 (.bool B) (.slice p1 l1.length k1')
 simpa using hS
theorem N7 {w:World} {sz:Value} {b:Bool} {k:Nat} {z:Int} (h:Av w sz k) (hk:k=z.natAbs) (hb:(b&&decide (0<k))=decide (z<0)):B3 w (.agg #[.bool (b&&decide (0<k)),sz]) z:=
 ⟨sz,by rw[hb],hk▸h⟩
theorem Om (va vb:Value) (x y:Int) (w:World) (ha:B3 w va x) (hb:B3 w vb y) (hx:x.natAbs<2^900) (hy:y.natAbs<2^900):
  Calls Tryz.prog 66 #[va,vb] w fun e w'=>∃v,e= .returned v/\B3 w' v (x+y)/\Below w.heap.size w w':=by
 obtain⟨pa,la,ca,rfl,ha'⟩:=Bm ha
 obtain⟨pb,lb,cb,rfl,hb'⟩:=Bm hb
 by_cases hs:decide (x<0)=decide (y<0)
 ·rw[<-hs]
  refine(add_same _ pa pb la ca lb cb _ _ w ha' hb' hx hy).mono ?_
  rintro e w' ⟨sz,rfl,h,hB⟩
  refine⟨_,rfl,N7 h ?_ ?_,hB⟩
  ·by_cases h1:x<0<;>by_cases h2:y<0<;>simp[h1,h2] at hs<;>omega
  ·by_cases h1:x<0<;>by_cases h2:y<0<;>simp[h1,h2] at hs
   ·rw[decide_eq_true h1,decide_eq_true (show 0<x.natAbs+y.natAbs by omega),decide_eq_true (show x+y<0 by omega)];rfl
   ·rw[decide_eq_false h1,decide_eq_false (show¬x+y<0 by omega)];rfl
 ·have hs':decide (y<0)= !decide (x<0):=by
   cases h1:decide (x<0)<;>cases h2:decide (y<0)<;>simp[h1,h2] at hs⊢
  rw[hs']
  rcases Nat.lt_or_ge x.natAbs y.natAbs with hl|hl
  ·refine(add_less _ pa pb la ca lb cb _ _ w ha' hb' hx hy (by omega) (by simp;omega)).mono ?_
   rintro e w' ⟨sz,rfl,h,hB⟩
   refine⟨_,rfl,N7 h ?_ ?_,hB⟩
   ·by_cases h1:x<0<;>by_cases h2:y<0<;>simp[h1,h2] at hs'<;>omega
   ·rw[<-hs']
    by_cases h1:x<0<;>by_cases h2:y<0<;>simp[h1,h2] at hs'
    ·rw[decide_eq_false h2,decide_eq_false (show¬x+y<0 by omega)];rfl
    ·rw[decide_eq_true h2,decide_eq_true (show 0<y.natAbs-x.natAbs by omega),decide_eq_true (show x+y<0 by omega)];rfl
  ·refine(add_more _ pa pb la ca lb cb _ _ w ha' hb' hx hy hl (by simp;omega)).mono ?_
   rintro e w' ⟨sz,rfl,h,hB⟩
   refine⟨_,rfl,N7 h ?_ ?_,hB⟩
   ·by_cases h1:x<0<;>by_cases h2:y<0<;>simp[h1,h2] at hs'<;>omega
   ·by_cases h1:x<0<;>by_cases h2:y<0<;>simp[h1,h2] at hs'
    ·rcases Nat.eq_or_lt_of_le hl with h3|h3
     ·rw[decide_eq_false (show¬0<x.natAbs-y.natAbs by omega),decide_eq_false (show¬x+y<0 by omega)];simp
     ·rw[decide_eq_true h1,decide_eq_true (show 0<x.natAbs-y.natAbs by omega),decide_eq_true (show x+y<0 by omega)];rfl
    ·rw[decide_eq_false h1,decide_eq_false (show¬x+y<0 by omega)];rfl
end Go.Proofs.YtdeghcgakkhbmaaGreat
namespace Go.Proofs.YtdeghcgakkhbmaaGreat
open Go.RowKit
theorem value_no (sa:Bool) (pa:Option Addr) (la ca:Nat) (z:Int) (w:World) (F:Bool)
  (cF:∀W,Below w.heap.size w W->Cb 149 #[.agg #[.bool sa,.slice pa la ca],.int .i64 64] W (.bool F)) (e1:Hid (F=false)):
  Cb 106 #[.agg #[.bool sa,.slice pa la ca]] w (.tuple #[.int .i64 0,.bool false]):=by
 go_enter Tryz.func106,Tryz.ntmps106
 go_wp2_with fail
 refine(cF _ Aa).mono ?_
 rintro e w1 ⟨rfl,hb1⟩
 have z2:=hb1.size
 try simp at z2
 refine Aj w w1 (Bc w.heap.size #[.bool sa,.slice pa la ca] 115<|Bz) ?_
 rintro hW z3 ⟨⟨b1,yb1,k1,f1⟩,-⟩
 clear hb1
 rw[e1.out]
 go_wp2
 refine bodyPost_ret (v:= .tuple #[.int .i64 0,.bool false]) (by simp[results,Tryz.results106,go_sem]) rfl ⟨rfl,by exact Aa⟩
theorem value_pos (pa:Option Addr) (la ca m:Nat) (z:Int) (w:World) (F:Bool) (ha:Hid (Av w (.slice pa la ca) m))
  (cF:∀W,Below w.heap.size w W->Cb 149 #[.agg #[.bool false,.slice pa la ca],.int .i64 64] W (.bool F)) (e1:Hid (F=true)) (hm63:m<9223372036854775808)
  (e2:Hid (m/2^0%2^64=m)):
  Cb 106 #[.agg #[.bool false,.slice pa la ca]] w (.tuple #[.int .i64 (m:Int),.bool true]):=by
 go_enter Tryz.func106,Tryz.ntmps106
 go_wp2_with fail
 refine(cF _ Aa).mono ?_
 rintro e w1 ⟨rfl,hb1⟩
 have z2:=hb1.size
 try simp at z2
 refine Aj w w1 (Bc w.heap.size #[.bool false,.slice pa la ca] 115<|Bz) ?_
 rintro hW z3 ⟨⟨b1,yb1,k1,f1⟩,-⟩
 clear hb1
 rw[e1.out]
 have hq:=Hd (ha.out.below (show Below w.heap.size w w1 from Aa))
 go_wp2_with fail
 refine(c_word _ _ 0 _ hq.out (by omega)).mono ?_
 rintro e w4 ⟨rfl,hb4⟩
 have z5:=hb4.size
 try simp at z5
 clear k1 f1
 refine Aj w w4 (Bc w.heap.size #[.bool false,.slice pa la ca] 115<|Bz) ?_
 clear b1 hW
 rintro hW z6 ⟨⟨b1,yb1,k1,f1⟩,-⟩
 clear hb4
 rw[e2.out]
 go_wp2
 refine bodyPost_ret (v:= .tuple #[.int .i64 (m:Int),.bool true]) (by simp[results,Tryz.results106,go_sem]) rfl ⟨rfl,by exact Aa⟩
theorem value_neg (pa:Option Addr) (la ca m s:Nat) (w:World) (F:Bool) (ha:Hid (Av w (.slice pa la ca) m))
  (cF:∀W,Below w.heap.size w W->Cb 149 #[.agg #[.bool true,.slice pa la ca],.int .i64 64] W (.bool F)) (e1:Hid (F=true)) (hm64:Hid (m<=2^64))
  (e2:Hid ((2^64-m)/2^0%2^64=s)) (e3:Hid (wrap64 (s:Int)= -(m:Int))):
  Cb 106 #[.agg #[.bool true,.slice pa la ca]] w (.tuple #[.int .i64 (-(m:Int)),.bool true]):=by
 go_enter Tryz.func106,Tryz.ntmps106
 go_wp2_with fail
 refine(cF _ Aa).mono ?_
 rintro e w1 ⟨rfl,hb1⟩
 have z2:=hb1.size
 try simp at z2
 refine Aj w w1 (Bc w.heap.size #[.bool true,.slice pa la ca] 115<|Bz) ?_
 rintro hW z3 ⟨⟨b1,yb1,k1,f1⟩,-⟩
 clear hb1
 rw[e1.out]
 have hq:=Hd (ha.out.below (show Below w.heap.size w w1 from Aa))
 go_wp2_with fail
 refine(Qu 64 _ (by omega)).mono ?_
 rintro e w4 ⟨v2,rfl,hq2,hb4⟩
 have z5:=hb4.size
 try simp at z5
 clear k1 f1
 refine Aj w w4 (Bc w.heap.size #[.bool true,.slice pa la ca] 115<|Bz) ?_
 clear b1 hW
 rintro hW z6 ⟨⟨b1,yb1,k1,f1⟩,-⟩
 replace hq2:=Hd hq2
 replace hq:=Hd (hq.out.below hb4)
 have cm:=Hd (Kh _ _ (2^64) m w4 hq2.out hq.out (J9 64 900 (by omega)) hm64.out)
 go_wp2_with fail
 refine(cm.out).mono ?_
 rintro e w7 ⟨v3,rfl,hq3,hb7⟩
 have z8:=hb7.size
 try simp at z8
 clear k1 f1
 refine Aj w w7 (Bc w.heap.size #[.bool true,.slice pa la ca] 115<|Bz) ?_
 clear b1 hW
 rintro hW z9 ⟨⟨b1,yb1,k1,f1⟩,-⟩
 replace hq3:=Hd hq3
 go_wp2_with fail
 refine(c_word _ _ 0 _ hq3.out (by omega)).mono ?_
 rintro e w10 ⟨rfl,hb10⟩
 have z11:=hb10.size
 try simp at z11
 clear k1 f1
 refine Aj w w10 (Bc w.heap.size #[.bool true,.slice pa la ca] 115<|Bz) ?_
 clear b1 hW
 rintro hW z12 ⟨⟨b1,yb1,k1,f1⟩,-⟩
 clear hb10
 rw[e2.out]
 go_wp2
 refine bodyPost_ret (v:= .tuple #[.int .i64 (-(m:Int)),.bool true]) (by simp[results,Tryz.results106,go_sem,e3.out]) rfl ⟨rfl,by exact Aa⟩
theorem fits64 {va:Value} {z:Int} {w:World} (h:B3 w va z) (hz:z.natAbs<2^900):
  ∀W,Below w.heap.size w W->Calls Tryz.prog 149 #[va,.int .i64 64] W fun e w'=>e= .returned (.bool (decide (-9223372036854775808<=z/\z<9223372036854775808)))/\Below W.heap.size W w':=
 fun W hW=>c_refFits va z 63 W (h.below hW) hz (by omega)
theorem Tn (va:Value) (z:Int) (w:World) (h:B3 w va z) (hz:z.natAbs<2^900) (ho:¬(-9223372036854775808<=z/\z<9223372036854775808)):
  Cb 106 #[va] w (.tuple #[.int .i64 0,.bool false]):=by
 obtain⟨pa,la,ca,rfl,h'⟩:=Bm h
 exact value_no _ pa la ca z w _ (fits64 h hz) (Hd (decide_eq_false ho))
theorem Sk (va:Value) (z:Int) (w:World) (h:B3 w va z) (h1: -9223372036854775808<=z) (h2:z<9223372036854775808):
  Cb 106 #[va] w (.tuple #[z,.bool true]):=by
 obtain⟨pa,la,ca,rfl,h'⟩:=Bm h
 have hz:z.natAbs<2^900:=C1 64 900 (show z.natAbs<2^64 by omega) (by omega)
 have hF:=fits64 h hz
 by_cases hn:z<0
 ·obtain⟨m,rfl⟩:∃m:Nat,z= -(m:Int):=⟨z.natAbs,by omega⟩
  rw[decide_eq_true hn] at hF⊢
  rw[show (-(m:Int)).natAbs=m by omega] at h'
  refine value_neg pa la ca m (18446744073709551616-m) w _ (Hd h') hF (Hd (decide_eq_true ⟨h1,h2⟩)) (Hd (by omega)) (Hd (by omega)) (Hd (by unfold wrap64;omega))
 ·obtain⟨m,rfl⟩:∃m:Nat,z=(m:Int):=⟨z.toNat,by omega⟩
  rw[decide_eq_false hn] at hF⊢
  rw[show ((m:Int)).natAbs=m by omega] at h'
  exact value_pos pa la ca m 0 w _ (Hd h') hF (Hd (decide_eq_true ⟨h1,h2⟩)) (by omega) (Hd (by omega))

theorem div_plain (sa:Bool) (pa pb:Option Addr) (la ca lb cb m n Q R:Nat) (w:World) (ha:Av w (.slice pa la ca) m) (hb:Av w (.slice pb lb cb) n) (hm:m<2^800) (hQ:Hid (m/n=Q)) (hR:Hid (m%n=R)) (hn0:0<n) (hn:n<2^800) (hs:sa=false):
  Calls Tryz.prog 164 #[.agg #[.bool sa,.slice pa la ca],.agg #[.bool false,.slice pb lb cb]] w fun e w'=>∃s1 s2,e= .returned (.tuple #[.agg #[.bool (sa&&decide (0<Q)),s1],.agg #[.bool false,s2]])/\Av w' s1 Q/\Av w' s2 R/\Below w.heap.size w w':=by
 subst hs
 go_enter Tryz.func164,Tryz.ntmps164
 go_wp2_with fail
 refine(Nd (.slice pa la ca) (.slice pb lb cb) m n _ (ha.below Aa) (hb.below Aa) hm hn0 hn).mono ?_
 rintro e w1 ⟨v1,v2,rfl,hq1,hq2,hb1⟩
 have z2:=hb1.size
 try simp at z2
 refine Aj w w1 (Bc w.heap.size #[.bool false,.slice pa la ca] 115<|Bc (w.heap.size+1) #[.bool false,.slice pb lb cb] 115<|Bc (w.heap.size+2) #[.bool false,.slice none 0 0] 115<|Bc (w.heap.size+3) #[.bool false,.slice none 0 0] 115<|Bz) ?_
 rintro hW z3 ⟨⟨b1,yb1,k1,f1⟩,⟨b2,yb2,k2,f2⟩,⟨b3,yb3,k3,f3⟩,⟨b4,yb4,k4,f4⟩,-⟩
 rw[hQ.out] at hq1
 rw[hR.out] at hq2
 obtain⟨p1,l1,k1',rfl,_,hl1⟩:=C5 hq1
 obtain⟨p2,l2,k2',rfl,hpos,hl2⟩:=C5 hq2
 replace hq1:=Hd hq1
 replace hq2:=Hd hq2
 replace hpos:=Hd hpos
 go_wp2_with fail
 refine(Dh false _ Q _ hq1.out).mono ?_
 rintro e w4 ⟨rfl,hb4⟩
 have z5:=hb4.size
 try simp at z5
 clear k1 f1 k2 f2 k3 f3 k4 f4
 refine Aj w w4 (Bc w.heap.size #[.bool false,.slice pa la ca] 115<|Bc (w.heap.size+1) #[.bool false,.slice pb lb cb] 115<|Bc (w.heap.size+2) #[.bool false,.slice none 0 0] 115<|Bc (w.heap.size+3) #[.bool false,.slice none 0 0] 115<|Bz) ?_
 clear b1 b2 b3 b4 hW
 rintro hW z6 ⟨⟨b1,yb1,k1,f1⟩,⟨b2,yb2,k2,f2⟩,⟨b3,yb3,k3,f3⟩,⟨b4,yb4,k4,f4⟩,-⟩
 replace hq1:=Hd (hq1.out.below hb4)
 replace hq2:=Hd (hq2.out.below hb4)
 go_wp2_with fail
 refine(Dh false _ R _ hq2.out).mono ?_
 rintro e w7 ⟨rfl,hb7⟩
 have z8:=hb7.size
 try simp at z8
 clear k1 f1 k2 f2 k3 f3 k4 f4
 refine Aj w w7 (Bc w.heap.size #[.bool false,.slice pa la ca] 115<|Bc (w.heap.size+1) #[.bool false,.slice pb lb cb] 115<|Bc (w.heap.size+2) #[.bool false,.slice none 0 0] 115<|Bc (w.heap.size+3) #[.bool false,.slice none 0 0] 115<|Bz) ?_
 clear b1 b2 b3 b4 hW
 rintro hW z9 ⟨⟨b1,yb1,k1,f1⟩,⟨b2,yb2,k2,f2⟩,⟨b3,yb3,k3,f3⟩,⟨b4,yb4,k4,f4⟩,-⟩
 replace hq1:=Hd (hq1.out.below hb7)
 replace hq2:=Hd (hq2.out.below hb7)
 go_wp2
 have y_1:=b1.lt
 have y_2:=b2.lt
 have y_3:=b3.lt
 have y_4:=b4.lt
 refine bodyPost_ret (v:= .tuple #[.agg #[.bool false,.slice p1 l1.length k1'],.agg #[.bool false,.slice p2 l2.length k2']]) (by simp[results,Tryz.results164,go_sem,k1,f1,k2,f2,k3,f3,k4,f4,y_1,y_2,y_3,y_4]) rfl ⟨.slice p1 l1.length k1',.slice p2 l2.length k2',by simp,?_,?_,by exact Aa⟩
 ·have hS:=(hq1.out.store b3 (.bool false) (.slice p1 l1.length k1')).store (show Blk _ (w.heap.size+3) #[.bool false,.slice none 0 0] 115 from (b4.setO (by omega) 0 _).setO (by omega) 1 _) (.bool false) (.slice p2 l2.length k2')
  simpa using hS
 ·have hS:=(hq2.out.store b3 (.bool false) (.slice p1 l1.length k1')).store (show Blk _ (w.heap.size+3) #[.bool false,.slice none 0 0] 115 from (b4.setO (by omega) 0 _).setO (by omega) 1 _) (.bool false) (.slice p2 l2.length k2')
  simpa using hS
theorem div_zero (pa pb:Option Addr) (la ca lb cb m n Q R:Nat) (w:World) (ha:Av w (.slice pa la ca) m) (hb:Av w (.slice pb lb cb) n) (hm:m<2^800) (hQ:Hid (m/n=Q)) (hR:Hid (m%n=R)) (hn0:0<n) (hn:n<2^800) (hr:R=0):
  Calls Tryz.prog 164 #[.agg #[.bool true,.slice pa la ca],.agg #[.bool false,.slice pb lb cb]] w fun e w'=>∃s1 s2,e= .returned (.tuple #[.agg #[.bool (true&&decide (0<Q)),s1],.agg #[.bool false,s2]])/\Av w' s1 Q/\Av w' s2 R/\Below w.heap.size w w':=by
 go_enter Tryz.func164,Tryz.ntmps164
 go_wp2_with fail
 refine(Nd (.slice pa la ca) (.slice pb lb cb) m n _ (ha.below Aa) (hb.below Aa) hm hn0 hn).mono ?_
 rintro e w1 ⟨v1,v2,rfl,hq1,hq2,hb1⟩
 have z2:=hb1.size
 try simp at z2
 refine Aj w w1 (Bc w.heap.size #[.bool true,.slice pa la ca] 115<|Bc (w.heap.size+1) #[.bool false,.slice pb lb cb] 115<|Bc (w.heap.size+2) #[.bool false,.slice none 0 0] 115<|Bc (w.heap.size+3) #[.bool false,.slice none 0 0] 115<|Bz) ?_
 rintro hW z3 ⟨⟨b1,yb1,k1,f1⟩,⟨b2,yb2,k2,f2⟩,⟨b3,yb3,k3,f3⟩,⟨b4,yb4,k4,f4⟩,-⟩
 rw[hQ.out] at hq1
 rw[hR.out] at hq2
 obtain⟨p1,l1,k1',rfl,_,hl1⟩:=C5 hq1
 obtain⟨p2,l2,k2',rfl,hpos,hl2⟩:=C5 hq2
 replace hq1:=Hd hq1
 replace hq2:=Hd hq2
 replace hpos:=Hd hpos
 obtain rfl:l2= []:=List.length_eq_zero_iff.1 (by have:=hpos.out;omega)
 clear hpos hr
 go_wp2_with fail
 refine(Dh true _ Q _ hq1.out).mono ?_
 rintro e w4 ⟨rfl,hb4⟩
 have z5:=hb4.size
 try simp at z5
 clear k1 f1 k2 f2 k3 f3 k4 f4
 refine Aj w w4 (Bc w.heap.size #[.bool true,.slice pa la ca] 115<|Bc (w.heap.size+1) #[.bool false,.slice pb lb cb] 115<|Bc (w.heap.size+2) #[.bool false,.slice none 0 0] 115<|Bc (w.heap.size+3) #[.bool false,.slice none 0 0] 115<|Bz) ?_
 clear b1 b2 b3 b4 hW
 rintro hW z6 ⟨⟨b1,yb1,k1,f1⟩,⟨b2,yb2,k2,f2⟩,⟨b3,yb3,k3,f3⟩,⟨b4,yb4,k4,f4⟩,-⟩
 replace hq1:=Hd (hq1.out.below hb4)
 replace hq2:=Hd (hq2.out.below hb4)
 go_wp2_with fail
 refine(Dh false _ R _ hq2.out).mono ?_
 rintro e w7 ⟨rfl,hb7⟩
 have z8:=hb7.size
 try simp at z8
 clear k1 f1 k2 f2 k3 f3 k4 f4
 refine Aj w w7 (Bc w.heap.size #[.bool true,.slice pa la ca] 115<|Bc (w.heap.size+1) #[.bool false,.slice pb lb cb] 115<|Bc (w.heap.size+2) #[.bool false,.slice none 0 0] 115<|Bc (w.heap.size+3) #[.bool false,.slice none 0 0] 115<|Bz) ?_
 clear b1 b2 b3 b4 hW
 rintro hW z9 ⟨⟨b1,yb1,k1,f1⟩,⟨b2,yb2,k2,f2⟩,⟨b3,yb3,k3,f3⟩,⟨b4,yb4,k4,f4⟩,-⟩
 replace hq1:=Hd (hq1.out.below hb7)
 replace hq2:=Hd (hq2.out.below hb7)
 obtain⟨B,hB⟩:∃B,B=(true&&decide (0<Q)):=⟨_,rfl⟩
 try rw[<-hB]
 try rw[Bool.true_and] at hB
 try rw[<-hB]
 replace hB:=Hd hB
 go_wp2
 have y_1:=b1.lt
 have y_2:=b2.lt
 have y_3:=b3.lt
 have y_4:=b4.lt
 refine bodyPost_ret (v:= .tuple #[.agg #[.bool B,.slice p1 l1.length k1'],.agg #[.bool false,.slice p2 0 k2']]) (by simp[results,Tryz.results164,go_sem,k1,f1,k2,f2,k3,f3,k4,f4,y_1,y_2,y_3,y_4]) rfl ⟨.slice p1 l1.length k1',.slice p2 0 k2',by rw[<-hB.out,Bool.true_and],?_,?_,by exact Aa⟩
 ·have hS:=(hq1.out.store b3 (.bool B) (.slice p1 l1.length k1')).store (show Blk _ (w.heap.size+3) #[.bool false,.slice none 0 0] 115 from (b4.setO (by omega) 0 _).setO (by omega) 1 _) (.bool false) (.slice p2 0 k2')
  simpa using hS
 ·have hS:=(hq2.out.store b3 (.bool B) (.slice p1 l1.length k1')).store (show Blk _ (w.heap.size+3) #[.bool false,.slice none 0 0] 115 from (b4.setO (by omega) 0 _).setO (by omega) 1 _) (.bool false) (.slice p2 0 k2')
  simpa using hS
attribute [local simp] Oper.looksAt Op.operands Call.operands Af Det Am
theorem div_rest (pa pb:Option Addr) (la ca lb cb m n Q R:Nat) (w:World) (ha:Av w (.slice pa la ca) m) (hb:Av w (.slice pb lb cb) n) (hm:m<2^800) (hQ:Hid (m/n=Q)) (hR:Hid (m%n=R)) (hn0:0<n) (hn:n<2^800) (hr:0<R) (hQ9:Q<2^900) (hn9:n<2^900) (hRn:R<=n):
  Calls Tryz.prog 164 #[.agg #[.bool true,.slice pa la ca],.agg #[.bool false,.slice pb lb cb]] w fun e w'=>∃s1 s2,e= .returned (.tuple #[.agg #[.bool true,s1],.agg #[.bool false,s2]])/\Av w' s1 (Q+1)/\Av w' s2 (n-R)/\Below w.heap.size w w':=by
 go_enter Tryz.func164,Tryz.ntmps164
 go_wp2_with fail
 refine(Nd (.slice pa la ca) (.slice pb lb cb) m n _ (ha.below Aa) (hb.below Aa) hm hn0 hn).mono ?_
 rintro e w1 ⟨v1,v2,rfl,hq1,hq2,hb1⟩
 have z2:=hb1.size
 try simp at z2
 have b1:Blk w1 w.heap.size #[.bool true,.slice pa la ca] 115:=Bo
 have b2:Blk w1 (w.heap.size+1) #[.bool false,.slice pb lb cb] 115:=Bo
 have b3:Blk w1 (w.heap.size+2) #[.bool false,.slice none 0 0] 115:=Bo
 have b4:Blk w1 (w.heap.size+3) #[.bool false,.slice none 0 0] 115:=Bo
 have hW:Below w.heap.size w w1:=Aa
 have z3:=b1.lt
 have z4:=b2.lt
 have z5:=b3.lt
 have z6:=b4.lt
 have k1:=b1.cell
 have f1:=b1.frozen
 have k2:=b2.cell
 have f2:=b2.frozen
 have k3:=b3.cell
 have f3:=b3.frozen
 have k4:=b4.cell
 have f4:=b4.frozen
 rw[hQ.out] at hq1
 rw[hR.out] at hq2
 obtain⟨p1,l1,k1',rfl,_,hl1⟩:=C5 hq1
 obtain⟨p2,l2,k2',rfl,hpos,hl2⟩:=C5 hq2
 obtain⟨j,hj⟩:∃j,l2.length=j+1:=⟨l2.length-1,by omega⟩
 rw[hj] at hq2
 rw[hj]
 clear hpos hl2 hl1 hj
 have hnn:=hb.below (show Below w.heap.size w w1 from by exact Aa)
 replace hq1:=Hd hq1
 replace hq2:=Hd hq2
 replace hnn:=Hd hnn
 go_upto_region 3 with(fail)
 clear k1 f1 k2 f2 k3 f3 k4 f4
 refine Bd (fun W'=>Below w.heap.size w W'/\Blk W' w.heap.size #[.bool true,.slice pa la ca] 115/\Blk W' (w.heap.size+1) #[.bool false,.slice pb lb cb] 115/\Blk W' (w.heap.size+2) #[.bool false,.slice none 0 0] 115/\Blk W' (w.heap.size+3) #[.bool false,.slice none 0 0] 115/\Av W' (.slice p1 l1.length k1') Q/\Av W' (.slice p2 (j+1) k2') R/\Av W' (.slice pb lb cb) n) ⟨by exact Aa,by exact Bo,by exact Bo,by exact Bo,by exact Bo,by exact hq1.out.below Aa,by exact hq2.out.below Aa,by exact hnn.out.below Aa⟩ ?_
 clear b1 b2 b3 b4 hW
 rintro W7 ⟨hW,b1,b2,b3,b4,b5,b6,b7⟩
 have z8:=hW.size
 have z9:=b1.lt
 have z10:=b2.lt
 have z11:=b3.lt
 have z12:=b4.lt
 clear hq1 hq2 hnn
 refine Az 9 38 [] (fun W'=>Rex [] W7 W'/\Blk W' w.heap.size #[.bool true,.slice pa la ca] 115/\Blk W' (w.heap.size+1) #[.bool false,.slice pb lb cb] 115/\Blk W' (w.heap.size+2) #[.bool false,.slice none 0 0] 115/\Blk W' (w.heap.size+3) #[.bool false,.slice none 0 0] 115/\Av W' (.slice p1 l1.length k1') Q/\Av W' (.slice p2 (j+1) k2') R/\Av W' (.slice pb lb cb) n) Cu (by kernel_rfl) rfl ⟨(Rex.refl _ _).drew,b1,b2,b3,b4,b5.drew,b6.drew,b7.drew⟩ (fun w w' ⟨h0,h1,h2,h3,h4,h5,h6,h7⟩ hr=>⟨h0.trans hr,h1.rex hr (by simp<;>omega),h2.rex hr (by simp<;>omega),h3.rex hr (by simp<;>omega),h4.rex hr (by simp<;>omega),h5.rex hr (by simp<;>omega),h6.rex hr (by simp<;>omega),h7.rex hr (by simp<;>omega)⟩) (fun c a d v w h=>by cases d<;>exact h) ?_
 iterate 1
  apply An (hg:=rfl) (hal:=rfl)
  ·intro a W' hC hE
   obtain⟨_,k1,k2,k3,k4,k5,k6,k7⟩:=hC
   have k1:=k1.cell
   have k2:=k2.cell
   first
    |(simp at hE;simp[go_sem,Act.eval,iw,hE,k1,k2,k3,k4,k5,k6,k7];try rfl)
    |(clear hE;simp[go_sem,Act.eval,iw,k1,k2,k3,k4,k5,k6,k7];try rfl)
 apply A5 (BS 1) (hg:=rfl) (hal:=rfl)
 ·exact BS.closed _
 ·intro a W' hC hE
  clear hE
  refine⟨_,_,?_,(c_Size 1 W' (by omega)).mono ?_⟩
  ·simp[go_sem,Act.eval]
   try rfl
  ·rintro e w' ⟨v,rfl,hB,hR⟩
   exact⟨_,rfl,hR,hB⟩
 apply A5 (BS (Q+1)) (hg:=rfl) (hal:=rfl)
 ·exact BS.closed _
 ·intro a W' hC hE
  simp at hE
  refine⟨_,_,?_,(Xf (.slice p1 l1.length k1') _ Q 1 W' hC.2.2.2.2.2.1 hE.2 hQ9 (by omega)).mono ?_⟩
  ·simp[go_sem,Act.eval,hE.1]
   try rfl
  ·rintro e w' ⟨v,rfl,hB,hR⟩
   exact⟨_,rfl,hR,hB⟩
 apply A5 (NS true (Q+1)) (hg:=rfl) (hal:=rfl)
 ·exact NS.closed _ _
 ·intro a W' hC hE
  simp at hE
  refine⟨_,_,?_,(Dh true _ (Q+1) W' hE).mono ?_⟩
  ·simp[go_sem,Act.eval]
   try rfl
  ·rintro e w' ⟨rfl,hR⟩
   have hb:=BS.below hE hR
   exact⟨_,rfl,hR,_,rfl,hb⟩
 iterate 3
  apply An (hg:=rfl) (hal:=rfl)
  ·intro a W' hC hE
   obtain⟨_,k1,k2,k3,k4,k5,k6,k7⟩:=hC
   have k1:=k1.cell
   have k2:=k2.cell
   first
    |(simp at hE;simp[go_sem,Act.eval,iw,hE,k1,k2,k3,k4,k5,k6,k7];try rfl)
    |(clear hE;simp[go_sem,Act.eval,iw,k1,k2,k3,k4,k5,k6,k7];try rfl)
 apply A5 (BS (n-R)) (hg:=rfl) (hal:=rfl)
 ·exact BS.closed _
 ·intro a W' hC hE
  simp at hE
  refine⟨_,_,?_,(Kh (.slice pb lb cb) (.slice p2 (j+1) k2') n R W' hC.2.2.2.2.2.2.2 hC.2.2.2.2.2.2.1 hn9 hRn).mono ?_⟩
  ·simp[go_sem,Act.eval,hE]
   try rfl
  ·rintro e w' ⟨v,rfl,hB,hR⟩
   exact⟨_,rfl,hR,hB⟩
 apply A5 (NS false (n-R)) (hg:=rfl) (hal:=rfl)
 ·exact NS.closed _ _
 ·intro a W' hC hE
  simp at hE
  refine⟨_,_,?_,(Dh false _ (n-R) W' hE).mono ?_⟩
  ·simp[go_sem,Act.eval]
   try rfl
  ·rintro e w' ⟨rfl,hR⟩
   have hb:=BS.below hE hR
   exact⟨_,rfl,hR,_,rfl,hb⟩
 rintro W2 ⟨hR',d1,d2,d3,d4,d5,d6,d7⟩
 simp only[A6,Det,forall_eq]
 intros
 repeat (rename Am _ _ _ _=>hgd;clear hgd)
 simp only[nS]
 clear b1 b2 b3 b4 b5 b6 b7
 have b1:=d1
 have b2:=d2
 have b3:=d3
 have b4:=d4
 clear d1 d2 d3 d4 d5 d6 d7
 obtain⟨sz1,rfl,hy1⟩:= ‹NS true _ _ _›
 obtain⟨sz2,rfl,hy2⟩:= ‹NS false _ _ _›
 obtain⟨p3,l3,k3',rfl,_,hl3⟩:=C5 hy1
 obtain⟨p4,l4,k4',rfl,_,hl4⟩:=C5 hy2
 replace hy1:=Hd hy1
 replace hy2:=Hd hy2
 replace hW:=hW.trans (hR'.of_priv hW.size)
 clear hR' hl3 hl4
 have k1:=b1.cell
 have f1:=b1.frozen
 have k2:=b2.cell
 have f2:=b2.frozen
 have k3:=b3.cell
 have f3:=b3.frozen
 have k4:=b4.cell
 have f4:=b4.frozen
 have y_1:=b1.lt
 have y_2:=b2.lt
 have y_3:=b3.lt
 have y_4:=b4.lt
 obtain⟨B,hB⟩:∃B,B=(true&&decide (0<Q+1)):=⟨_,rfl⟩
 rw[<-hB]
 replace hB:=Hd hB
 obtain⟨C,hC⟩:∃C,C=(false&&decide (0<n-R)):=⟨_,rfl⟩
 rw[<-hC]
 replace hC:=Hd hC
 go_wp2
 refine bodyPost_ret (v:= .tuple #[.agg #[.bool B,.slice p3 l3.length k3'],.agg #[.bool C,.slice p4 l4.length k4']]) (by simp[results,Tryz.results164,go_sem,k1,f1,k2,f2,k3,f3,k4,f4,y_1,y_2,y_3,y_4]) rfl ⟨.slice p3 l3.length k3',.slice p4 l4.length k4',by rw[hB.out,hC.out];simp,?_,?_,by exact Aa⟩
 ·have hS:=(hy1.out.store b3 (.bool B) (.slice p3 l3.length k3')).store (show Blk _ (w.heap.size+3) #[.bool false,.slice none 0 0] 115 from (b4.setO (by omega) 0 _).setO (by omega) 1 _) (.bool C) (.slice p4 l4.length k4')
  simpa using hS
 ·have hS:=(hy2.out.store b3 (.bool B) (.slice p3 l3.length k3')).store (show Blk _ (w.heap.size+3) #[.bool false,.slice none 0 0] 115 from (b4.setO (by omega) 0 _).setO (by omega) 1 _) (.bool C) (.slice p4 l4.length k4')
  simpa using hS
theorem On (v:Int) (w:World):
  Cb 136 #[v] w (.bool (Ay v)):=by
 unfold Ay
 go_enter Tryz.func136,Tryz.ntmps136
 go_upto_region 1 with(fail)
 refine Dm 6 9 [] (fun W'=>Rex [] w W') (by kernel_rfl) rfl (Rex.refl _ _) (fun w w' h0 hr=>h0.trans hr) ?_
 iterate 3
  apply An (hg:=rfl) (hal:=rfl)
  ·intro a W' hC hE
   obtain _:=hC
   first
    |(simp at hE;simp[go_sem,Act.eval,iw,hE];try rfl)
    |(clear hE;simp[go_sem,Act.eval,iw];try rfl)
 iterate 2
  apply Ai (p:=true) (hg:=rfl) (hd:=rfl) (hal:=rfl)
  ·intro v W' h
   simp[Af,Det,Am] at h
   simp
   exact h
  ·intro hp hx a W' hC hE
   obtain _:=hC
   simp[hx] at hE
   simp[go_sem,Act.eval,iw,hE]
   try rfl
 apply Cm (ho:=rfl) (hg:=rfl)
 ·intro v W' h
  simp at h
  exact h
 ·intro v W' h hx
  simp[hx] at h
  exact h
 rintro W2 hR
 simp only[A6,Det,forall_eq]
 intros
 repeat (rename Am _ _ _ _=>hgd;clear hgd)
 simp only[nS]
 go_wp2
 go_ret
 exact⟨rfl,hR.of_priv (Nat.le_refl _)⟩
theorem c_rslope (n d:Int) (w:World):
  Cb 200 #[.agg #[n,d]] w (.bool (Ff n d)):=by
 unfold Ff
 go_enter Tryz.func200,Tryz.ntmps200
 go_upto_region 1 with(fail)
 refine Bd (fun W=>Below w.heap.size w W/\Blk W w.heap.size #[n,d] 254) ⟨(Below.refl _ _).alloc (Nat.le_refl _) _,(by repeat (first|(refine Blk.new' ?_;simp;done)|refine Blk.alloc ?_ _))⟩ ?_
 rintro W ⟨hW,b1⟩
 refine Dm 18 21 [] (fun W'=>Rex [] W W'/\Blk W' w.heap.size #[n,d] 254) (by kernel_rfl) rfl ⟨(Rex.refl _ _),b1⟩ (fun w w' ⟨h0,h1⟩ hr=>⟨h0.trans hr,h1.rex hr (by simp<;>omega)⟩) ?_
 iterate 18
  first
  |(
   apply An (hg:=rfl) (hal:=rfl)
   ·intro a W' hC hE
    obtain⟨_,k1⟩:=hC
    have k1:=k1.cell
    first
     |(simp at hE;simp[go_sem,Act.eval,iw,hE,k1];try rfl)
     |(clear hE;simp[go_sem,Act.eval,iw,k1];try rfl))
  |(
   apply Ai (p:=true) (hg:=rfl) (hd:=rfl) (hal:=rfl)
   ·intro v W' h
    simp[Af,Det,Am] at h
    simp
    exact h
   ·intro hp hx a W' hC hE
    obtain⟨_,k1⟩:=hC
    have k1:=k1.cell
    simp[hx] at hE
    simp[go_sem,Act.eval,iw,hE,k1]
    try rfl)
  |(
   apply Cm (ho:=rfl) (hg:=rfl)
   ·intro v W' h
    simp at h
    exact h
   ·intro v W' h hx
    simp[hx] at h
    exact h)
 rintro W2 ⟨hR,c1⟩
 simp only[A6,Det,forall_eq]
 intros
 repeat (rename Am _ _ _ _=>hgd;clear hgd)
 simp only[nS]
 go_wp2
 go_ret
 exact⟨rfl,hW.trans (hR.of_priv hW.size)⟩
structure Tt (a b m n:Int):Prop where
 m0:0<=m
 m1:m<=9223372036854775807
 n0:0<=n
 n1:n<=9223372036854775807
 eq:Nat.gcd m.natAbs n.natAbs=Nat.gcd a.natAbs b.natAbs
theorem Tt.left {a b m n:Int} (h:Tt a b m n) (hn:0<n):Tt a b (m%n) n/\m%n<n:=by
 have l1:=Int.emod_nonneg m (show n≠0 by omega)
 have l2:=Int.emod_lt_of_pos m hn
 have:=h.n1
 refine⟨⟨l1,by omega,h.n0,h.n1,?_⟩,l2⟩
 rw[<-h.eq]
 obtain⟨m,rfl⟩:=Int.eq_ofNat_of_zero_le h.m0
 obtain⟨n,rfl⟩:=Int.eq_ofNat_of_zero_le h.n0
 show Nat.gcd (m%n) n=Nat.gcd m n
 rw[Nat.gcd_comm m n,<-Nat.gcd_rec]
theorem Tt.right {a b m n:Int} (h:Tt a b m n) (hm:0<m):Tt a b m (n%m)/\n%m<m:=by
 have l1:=Int.emod_nonneg n (show m≠0 by omega)
 have l2:=Int.emod_lt_of_pos n hm
 have:=h.m1
 refine⟨⟨h.m0,h.m1,l1,by omega,?_⟩,l2⟩
 rw[<-h.eq]
 obtain⟨m,rfl⟩:=Int.eq_ofNat_of_zero_le h.m0
 obtain⟨n,rfl⟩:=Int.eq_ofNat_of_zero_le h.n0
 show Nat.gcd m (n%m)=Nat.gcd m n
 rw[Nat.gcd_comm m (n%m),Nat.gcd_rec m n]
theorem Tt.done {a b m n:Int} (h:Tt a b m n) (hz:m=0∨n=0):m+n=(Nat.gcd a.natAbs b.natAbs:Int):=by
 rw[<-h.eq]
 have:=h.m0;have:=h.n0
 rcases hz with rfl|rfl<;>simp<;>omega
def Lm (a b:Int) (w:World) (a':Act) (W:World):Prop:=W=w/\∃(m n:Int),(∃u:Nat->Value,a'= {tmps:= #[m,n,u 2,u 3,.int .i64 0,u 5,u 6,u 7,u 8,u 9,u 10,u 11,u 12,u 13,u 14,u 15,u 16,u 17,u 18,u 19,u 20,u 21,u 22,u 23,u 24,u 25,u 26],defers:= []})/\Tt a b m n
theorem c_common (a b:Int) (w:World) (ha: -9223372036854775807<=a/\a<=9223372036854775807) (hb:0<=b/\b<=9223372036854775807):
  Calls Tryz.prog 215 #[a,b] w fun e w'=>e= .returned (.int .i64 (Nat.gcd a.natAbs b.natAbs))/\w'=w:=by
 go_enter Tryz.func215,Tryz.ntmps215
 have start:∀m,(m=a∨m= -a)->0<=m->Tt a b m b:=by
  rintro m (rfl|rfl) h
  ·exact⟨h,ha.2,hb.1,hb.2,rfl⟩
  ·exact⟨h,by omega,hb.1,hb.2,by rw[Int.natAbs_neg]⟩
 by_cases h:a<0
 ·go_wp2
  refine wp_loop (Lm a b w) (fun x _=>(Ag (x.tmps.getD 0 undef)).toNat+(Ag (x.tmps.getD 1 undef)).toNat) ?_ ?_
  ·unfold Lm
   exact⟨rfl,-a,b,Ac rfl,start _ (.inr rfl) (by omega)⟩
  rintro a' W ⟨rfl,m,n,⟨u,rfl⟩,hs⟩
  have m0:=hs.m0;have m1:=hs.m1;have n0:=hs.n0;have n1:=hs.n1
  by_cases hm:0<m
  ·by_cases hn:0<n
   ·by_cases hmn:n<m
    ·have hq:=hs.left hn
     have hn0:¬n=0:=by omega
     go_wp2
     have hq2:=hq.2
     refine⟨?_,by simp[Ag];omega⟩
     unfold Lm
     exact⟨rfl,m%n,n,Ac rfl,hq.1⟩
    ·have hq:=hs.right hm
     have hm0:¬m=0:=by omega
     go_wp2
     have hq2:=hq.2
     refine⟨?_,by simp[Ag];omega⟩
     unfold Lm
     exact⟨rfl,m,n%m,Ac rfl,hq.1⟩
   ·have hd:=Hd (hs.done (.inr (by omega)))
    go_wp2
    go_ret
    exact⟨by rw[<-hd.out];rfl,rfl⟩
  ·have hd:=Hd (hs.done (.inl (by omega)))
   go_wp2
   go_ret
   exact⟨by rw[<-hd.out];rfl,rfl⟩
 ·go_wp2
  refine wp_loop (Lm a b w) (fun x _=>(Ag (x.tmps.getD 0 undef)).toNat+(Ag (x.tmps.getD 1 undef)).toNat) ?_ ?_
  ·unfold Lm
   exact⟨rfl,a,b,Ac rfl,start _ (.inl rfl) (by omega)⟩
  rintro a' W ⟨rfl,m,n,⟨u,rfl⟩,hs⟩
  have m0:=hs.m0;have m1:=hs.m1;have n0:=hs.n0;have n1:=hs.n1
  by_cases hm:0<m
  ·by_cases hn:0<n
   ·by_cases hmn:n<m
    ·have hq:=hs.left hn
     have hn0:¬n=0:=by omega
     go_wp2
     have hq2:=hq.2
     refine⟨?_,by simp[Ag];omega⟩
     unfold Lm
     exact⟨rfl,m%n,n,Ac rfl,hq.1⟩
    ·have hq:=hs.right hm
     have hm0:¬m=0:=by omega
     go_wp2
     have hq2:=hq.2
     refine⟨?_,by simp[Ag];omega⟩
     unfold Lm
     exact⟨rfl,m,n%m,Ac rfl,hq.1⟩
   ·have hd:=Hd (hs.done (.inr (by omega)))
    go_wp2
    go_ret
    exact⟨by rw[<-hd.out];rfl,rfl⟩
  ·have hd:=Hd (hs.done (.inl (by omega)))
   go_wp2
   go_ret
   exact⟨by rw[<-hd.out];rfl,rfl⟩
theorem rlowest_w (n d g x y:Int) (w:World) (hg:¬g=0) (e1:wrap64 (n.tdiv g)=x) (e2:wrap64 (d.tdiv g)=y)
  (c1:∀w,Calls Tryz.prog 215 #[n,d] w fun e w'=>e= .returned (g)/\w'=w):
  Cb 201 #[.agg #[n,d]] w (.agg #[x,y]):=by
 go_enter Tryz.func201,Tryz.ntmps201
 go_wp2_with fail
 refine(c1 _).mono ?_
 rintro e w1 ⟨rfl,rfl⟩
 clear c1
 go_upto_region 2 with(fail)
 refine Bd (fun W=>Below w.heap.size w W/\Blk W w.heap.size #[n,d] 254/\Blk W (w.heap.size+1) #[.int .i64 0,.int .i64 0] 254) ⟨?_,(by repeat (first|(refine Blk.new' ?_;simp;done)|refine Blk.alloc ?_ _)),(by repeat (first|(refine Blk.new' ?_;simp;done)|refine Blk.alloc ?_ _))⟩ ?_
 ·exact(have hUp:=(Below.refl w.heap.size w);Aa)
 rintro W ⟨hW,b1,b2⟩
 refine Az 9 18 [] (fun W'=>Rex [] W W'/\Blk W' w.heap.size #[n,d] 254/\Blk W' (w.heap.size+1) #[.int .i64 0,.int .i64 0] 254) Cu (by kernel_rfl) rfl ⟨(Rex.refl _ _).drew,b1,b2⟩ (fun w w' ⟨h0,h1,h2⟩ hr=>⟨h0.trans hr,h1.rex hr (by simp<;>omega),h2.rex hr (by simp<;>omega)⟩) (fun c a d v w h=>by cases d<;>exact h) ?_
 iterate 9
  apply An (hg:=rfl) (hal:=rfl)
  ·intro a W' hC hE
   obtain⟨_,k1,k2⟩:=hC
   have k1:=k1.cell
   first
    |(simp at hE;simp[go_sem,Act.eval,iw,hE,k1,k2,hg,e1,e2];try rfl)
    |(clear hE;simp[go_sem,Act.eval,iw,k1,k2,hg,e1,e2];try rfl)
 rintro W2 ⟨hR,c1,c2⟩
 simp only[A6,Det,forall_eq]
 intros
 repeat (rename Am _ _ _ _=>hgd;clear hgd)
 simp only[nS]
 have k2:=c2.cell
 have k3:=c2.frozen
 go_wp2
 refine bodyPost_ret (v:= .agg #[x,y]) (by simp[results,Tryz.results201,go_sem,k2,k3]) rfl ⟨rfl,?_⟩
 exact(have hUp:=(hW.trans (hR.of_priv hW.size));Aa)
theorem c_rlowest (n d:Int) (w:World) (hn: -9223372036854775807<=n/\n<=9223372036854775807) (hd:1<=d) (hd':d<=9223372036854775807):
  Cb 201 #[.agg #[n,d]] w (.agg #[.int .i64 (n.tdiv (Jn n d)),.int .i64 (d.tdiv (Jn n d))]):=by
 have hg:=R7 n hd
 exact rlowest_w n d (Jn n d) _ _ w (by omega) (J4 n _ ⟨by omega,hn.2⟩ hg) (J4 d _ ⟨by omega,hd'⟩ hg) (fun w=>c_common n d w hn ⟨by omega,hd'⟩)
theorem c_rline (A R n d:Int) (w:World):
  Cb 178 #[.agg #[A,R,n,d]] w (.bool (Cy A R n d)):=by
 rw[U0]
 go_enter Tryz.func178,Tryz.ntmps178
 go_upto_region 2 with(fail)
 refine Bd (fun W=>Below w.heap.size w W/\Blk W w.heap.size #[A,R,n,d] 132/\Blk W (w.heap.size+1) #[n,d] 254) ⟨by exact Aa,by exact Ad,by exact Ad⟩ ?_
 rintro W ⟨hW,b1,b2⟩
 refine Az 25 34 [] (fun W'=>Rex [] W W'/\Blk W' w.heap.size #[A,R,n,d] 132/\Blk W' (w.heap.size+1) #[n,d] 254) Cu (by kernel_rfl) rfl ⟨(Rex.refl _ _).drew,b1,b2⟩ (fun w w' ⟨h0,h1,h2⟩ hr=>⟨h0.trans hr,h1.rex hr (by simp<;>omega),h2.rex hr (by simp<;>omega)⟩) (fun c a d v w h=>by cases d<;>exact h) ?_
 iterate 2
  apply An (hg:=rfl) (hal:=rfl)
  ·intro a W' hC hE
   obtain⟨_,k1,k2⟩:=hC
   have k1:=k1.cell
   have k2:=k2.cell
   first
    |(simp at hE;simp[go_sem,Act.eval,iw,hE,k1,k2,Bt];try rfl)
    |(clear hE;simp[go_sem,Act.eval,iw,k1,k2,Bt];try rfl)
 refine Cx rfl rfl (fun W' hC=>On A W') (fun a W' hC hE=> ?_) ?_
 ·obtain⟨_,k1,k2⟩:=hC
  have k1:=k1.cell
  have k2:=k2.cell
  first
   |(simp at hE;simp[go_sem,Act.eval,iw,hE,k1,k2,Bt];try rfl)
   |(clear hE;simp[go_sem,Act.eval,iw,k1,k2,Bt];try rfl)
 iterate 1
  apply An (hg:=rfl) (hal:=rfl)
  ·intro a W' hC hE
   obtain⟨_,k1,k2⟩:=hC
   have k1:=k1.cell
   have k2:=k2.cell
   first
    |(simp at hE;simp[go_sem,Act.eval,iw,hE,k1,k2,Bt];try rfl)
    |(clear hE;simp[go_sem,Act.eval,iw,k1,k2,Bt];try rfl)
 iterate 1
  apply Ai (p:=true) (hg:=rfl) (hd:=rfl) (hal:=rfl)
  ·intro v W' h
   simp[Af,Det,Am] at h
   simp
   exact h
  ·intro hp hx a W' hC hE
   obtain⟨_,k1,k2⟩:=hC
   have k1:=k1.cell
   have k2:=k2.cell
   simp[hx] at hE
   simp[go_sem,Act.eval,iw,hE,k1,k2,Bt]
   try rfl
 apply Bu (p:=true) (hg:=rfl) (hd:=rfl) (hal:=rfl)
 ·intro v W' h
  simp at h
  simp
  exact h
 ·intro hp hx W' hC
  exact c_rslope n d W'
 ·intro hp hx a W' hC hE
  obtain⟨_,k1,k2⟩:=hC
  have k1:=k1.cell
  have k2:=k2.cell
  first
   |(simp[hx] at hE;simp[go_sem,Act.eval,iw,hE,k1,k2,Bt];try rfl)
   |(clear hE;simp[go_sem,Act.eval,iw,k1,k2,Bt];try rfl)
 apply Cm (ho:=rfl) (hg:=rfl)
 ·intro v W' h
  simp at h
  exact h
 ·intro v W' h hx
  simp[hx] at h
  exact h
 iterate 1
  apply An (hg:=rfl) (hal:=rfl)
  ·intro a W' hC hE
   obtain⟨_,k1,k2⟩:=hC
   have k1:=k1.cell
   have k2:=k2.cell
   first
    |(simp at hE;simp[go_sem,Act.eval,iw,hE,k1,k2,Bt];try rfl)
    |(clear hE;simp[go_sem,Act.eval,iw,k1,k2,Bt];try rfl)
 iterate 1
  apply Ai (p:=true) (hg:=rfl) (hd:=rfl) (hal:=rfl)
  ·intro v W' h
   simp[Af,Det,Am] at h
   simp
   exact h
  ·intro hp hx a W' hC hE
   obtain⟨_,k1,k2⟩:=hC
   have k1:=k1.cell
   have k2:=k2.cell
   simp[hx] at hE
   simp[go_sem,Act.eval,iw,hE,k1,k2,Bt]
   try rfl
 apply Bu (p:=true) (hg:=rfl) (hd:=rfl) (hal:=rfl)
 ·intro v W' h
  simp at h
  simp
  exact h
 ·intro hp hx W' hC
  exact(let q:=Hv (show Ff n d=true by simp at hx;exact hx.2);c_rlowest n d W' ⟨by have:=q.1;omega,by have:=q.1;omega⟩ q.2.1 (by have:=q.2.2;omega))
 ·intro hp hx a W' hC hE
  obtain⟨_,k1,k2⟩:=hC
  have k1:=k1.cell
  have k2:=k2.cell
  first
   |(simp[hx] at hE;simp[go_sem,Act.eval,iw,hE,k1,k2,Bt];try rfl)
   |(clear hE;simp[go_sem,Act.eval,iw,k1,k2,Bt];try rfl)
 iterate 15
  first
  |(
   apply Ai (p:=true) (hg:=rfl) (hd:=rfl) (hal:=rfl)
   ·intro v W' h
    simp[Af,Det,Am] at h
    simp
    exact h
   ·intro hp hx a W' hC hE
    obtain⟨_,k1,k2⟩:=hC
    have k1:=k1.cell
    have k2:=k2.cell
    simp[hx] at hE
    simp[go_sem,Act.eval,iw,hE,k1,k2,Bt]
    try rfl)
  |(
   apply Cm (ho:=rfl) (hg:=rfl)
   ·intro v W' h
    simp at h
    exact h
   ·intro v W' h hx
    simp[hx] at h
    exact h)
  |(
   apply An (hg:=rfl) (hal:=rfl)
   ·intro a W' hC hE
    obtain⟨_,k1,k2⟩:=hC
    have k1:=k1.cell
    have k2:=k2.cell
    first
     |(simp at hE;simp[go_sem,Act.eval,iw,hE,k1,k2,Bt];try rfl)
     |(clear hE;simp[go_sem,Act.eval,iw,k1,k2,Bt];try rfl))
 rintro W2 ⟨hR,c1,c2⟩
 simp only[A6,Det,forall_eq]
 intros
 repeat (rename Am _ _ _ _=>hgd;clear hgd)
 simp only[nS]
 go_wp2
 go_ret
 exact⟨rfl,hW.trans (hR.of_priv hW.size)⟩
def NI (z:Int):Bi:=fun v w=>B3 w v z
theorem NI.closed (z:Int):A9 [] (NI z):=fun _ _ _ hr h=>B3.rex h hr rfl
theorem divN {m n Q R:Nat} (hn:0<n) (hQ:m/n=Q) (hR:m%n=R):(m:Int)/(n:Int)=Q/\(m:Int)%(n:Int)=R:=by
 subst hQ hR;exact⟨by simp,by simp⟩
theorem divN0 {m n Q:Nat} (hn:0<n) (hQ:m/n=Q) (hR:m%n=0):(-(m:Int))/(n:Int)= -(Q:Int)/\(-(m:Int))%(n:Int)=0:=by
 have h:=Nat.div_add_mod m n
 rw[hQ,hR] at h
 refine(Int.ediv_emod_unique (by omega)).2 ⟨?_,by omega,by omega⟩
 have:((n*Q:Nat):Int)=m:=by omega
 rw[Int.natCast_mul] at this
 rw[Int.mul_neg];omega
theorem divN1 {m n Q R:Nat} (hn:0<n) (hQ:m/n=Q) (hR:m%n=R) (h0:0<R):(-(m:Int))/(n:Int)= -((Q+1:Nat):Int)/\(-(m:Int))%(n:Int)=((n-R:Nat):Int):=by
 have h:=Nat.div_add_mod m n
 have hl:=Nat.mod_lt m hn
 rw[hQ,hR] at h
 rw[hR] at hl
 refine(Int.ediv_emod_unique (by omega)).2 ⟨?_,by omega,by omega⟩
 have:((n*Q:Nat):Int)+R=m:=by omega
 rw[Int.natCast_mul] at this
 rw[Int.mul_neg,show ((Q+1:Nat):Int)=(Q:Int)+1 by omega,Int.mul_add]
 omega
theorem Sm (va vb:Value) (x y:Int) (w:World) (ha:B3 w va x) (hb:B3 w vb y) (hx:x.natAbs<2^800) (hy0:0<y) (hy:y.natAbs<2^800):
  Calls Tryz.prog 164 #[va,vb] w fun e w'=>∃v1 v2,e= .returned (.tuple #[v1,v2])/\B3 w' v1 (x/y)/\B3 w' v2 (x%y)/\Below w.heap.size w w':=by
 obtain⟨pa,la,ca,rfl,ha'⟩:=Bm ha
 obtain⟨pb,lb,cb,rfl,hb'⟩:=Bm hb
 rw[decide_eq_false (show¬y<0 by omega)]
 obtain⟨n,rfl⟩:∃n:Nat,y=(n:Int):=⟨y.toNat,by omega⟩
 have hn0:0<n:=by omega
 rw[Int.natAbs_natCast] at hb' hy
 obtain⟨Q,hQ⟩:∃Q,x.natAbs/n=Q:=⟨_,rfl⟩
 obtain⟨R,hR⟩:∃R,x.natAbs%n=R:=⟨_,rfl⟩
 by_cases hneg:x<0
 ·rw[decide_eq_true hneg]
  obtain⟨m,rfl⟩:∃m:Nat,x= -(m:Int):=⟨x.natAbs,by omega⟩
  rw[Int.natAbs_neg,Int.natAbs_natCast] at ha' hx hQ hR
  rcases Nat.eq_zero_or_pos R with h0|h0
  ·refine(div_zero pa pb la ca lb cb m n Q R w ha' hb' hx (Hd hQ) (Hd hR) hn0 hy h0).mono ?_
   rintro e w' ⟨s1,s2,rfl,h1,h2,hB⟩
   subst h0
   obtain⟨e1,e2⟩:=divN0 hn0 hQ hR
   rw[e1,e2]
   refine⟨_,_,rfl,N7 h1 (by omega) ?_,⟨s2,rfl,h2⟩,hB⟩
   rw[Bool.true_and];exact decide_eq_decide.2 ⟨fun h=>by omega,fun h=>by omega⟩
  ·have hl:=Nat.mod_lt m hn0
   rw[hR] at hl
   have hQm:Q<=m:=by rw[<-hQ];exact Nat.div_le_self _ _
   have big:=J9 800 900 (by omega)
   refine(div_rest pa pb la ca lb cb m n Q R w ha' hb' hx (Hd hQ) (Hd hR) hn0 hy h0 (by omega) (by omega) (by omega)).mono ?_
   rintro e w' ⟨s1,s2,rfl,h1,h2,hB⟩
   obtain⟨e1,e2⟩:=divN1 hn0 hQ hR h0
   rw[e1,e2]
   refine⟨_,_,rfl,⟨s1,by rw[decide_eq_true (show-((Q+1:Nat):Int)<0 by omega)],by rw[Int.natAbs_neg,Int.natAbs_natCast];exact h1⟩,⟨s2,by rw[decide_eq_false (show¬((n-R:Nat):Int)<0 by omega)],by rw[Int.natAbs_natCast];exact h2⟩,hB⟩
 ·rw[decide_eq_false hneg]
  obtain⟨m,rfl⟩:∃m:Nat,x=(m:Int):=⟨x.toNat,by omega⟩
  rw[Int.natAbs_natCast] at ha' hx hQ hR
  refine(div_plain false pa pb la ca lb cb m n Q R w ha' hb' hx (Hd hQ) (Hd hR) hn0 hy rfl).mono ?_
  rintro e w' ⟨s1,s2,rfl,h1,h2,hB⟩
  obtain⟨e1,e2⟩:=divN hn0 hQ hR
  rw[e1,e2]
  refine⟨_,_,rfl,⟨s1,by rw[decide_eq_false (show¬(Q:Int)<0 by omega)];rfl,by rw[Int.natAbs_natCast];exact h1⟩,⟨s2,by rw[decide_eq_false (show¬(R:Int)<0 by omega)],by rw[Int.natAbs_natCast];exact h2⟩,hB⟩
theorem rtimes_w (A R n d t:Int) (w:World) (hn: -9223372036854775808<=n/\n<=9223372036854775807) (ht: -9223372036854775808<=t/\t<=9223372036854775807) (hRR: -9223372036854775808<=R/\R<=9223372036854775807) (hA: -9223372036854775808<=A/\A<=9223372036854775807) (hd: -9223372036854775808<=d/\d<=9223372036854775807)
  (hn4:n.natAbs<2^400) (ht4:t.natAbs<2^400) (hA4:A.natAbs<2^400) (hd4:d.natAbs<2^400) (hnt9:(n*t).natAbs<2^900) (hR9:R.natAbs<2^900) (hs9:(n*t+R).natAbs<2^900) (hAd9:(A*d).natAbs<2^900):
  Calls Tryz.prog 165 #[.agg #[A,R,n,d],t] w fun e w'=>∃v,e= .returned v/\B3 w' v (n*t+R+A*d)/\Below w.heap.size w w':=by
 go_enter Tryz.func165,Tryz.ntmps165
 go_upto_region 1 with(fail)
 refine Ab w (Bc w.heap.size #[A,R,n,d] 132<|Bc (w.heap.size+1) #[.bool false,.slice none 0 0] 115<|Bz) ?_
 rintro W1 hW z2 ⟨⟨b1,yb1,k1,f1⟩,⟨b2,yb2,k2,f2⟩,-⟩
 refine Az 11 25 [] (fun W'=>Rex [] W1 W'/\Blk W' w.heap.size #[A,R,n,d] 132/\Blk W' (w.heap.size+1) #[.bool false,.slice none 0 0] 115) Cu (by kernel_rfl) rfl ⟨(Rex.refl _ _).drew,b1,b2⟩ (fun w w' ⟨h0,h1,h2⟩ hr=>⟨h0.trans hr,h1.rex hr (by simp<;>omega),h2.rex hr (by simp<;>omega)⟩) (fun c a d v w h=>by cases d<;>exact h) ?_
 iterate 2
  apply An (hg:=rfl) (hal:=rfl)
  ·intro a W' hC hE
   obtain⟨_,k1,k2⟩:=hC
   have k1:=k1.cell
   first
    |(simp at hE;simp[go_sem,Act.eval,iw,hE,k1,k2];try rfl)
    |(clear hE;simp[go_sem,Act.eval,iw,k1,k2];try rfl)
 apply A5 (NI (n)) (hg:=rfl) (hal:=rfl)
 ·exact NI.closed _
 ·intro a W' hC hE
  simp at hE
  refine⟨_,_,?_,(En n W' hn.1 hn.2).mono ?_⟩
  ·simp[go_sem,Act.eval,hE]
   try rfl
  ·rintro e w' ⟨v,rfl,hB,hR⟩
   exact⟨_,rfl,hR,hB⟩
 iterate 1
  apply An (hg:=rfl) (hal:=rfl)
  ·intro a W' hC hE
   obtain⟨_,k1,k2⟩:=hC
   have k1:=k1.cell
   first
    |(simp at hE;simp[go_sem,Act.eval,iw,hE,k1,k2];try rfl)
    |(clear hE;simp[go_sem,Act.eval,iw,k1,k2];try rfl)
 apply A5 (NI (t)) (hg:=rfl) (hal:=rfl)
 ·exact NI.closed _
 ·intro a W' hC hE
  simp at hE
  refine⟨_,_,?_,(En t W' ht.1 ht.2).mono ?_⟩
  ·simp[go_sem,Act.eval,hE]
   try rfl
  ·rintro e w' ⟨v,rfl,hB,hR⟩
   exact⟨_,rfl,hR,hB⟩
 apply A5 (NI (n*t)) (hg:=rfl) (hal:=rfl)
 ·exact NI.closed _
 ·intro a W' hC hE
  simp at hE
  refine⟨_,_,?_,(Zr _ _ n t W' hE.1 hE.2 hn4 ht4).mono ?_⟩
  ·simp[go_sem,Act.eval]
   try rfl
  ·rintro e w' ⟨v,rfl,hB,hR⟩
   exact⟨_,rfl,hR,hB⟩
 iterate 2
  apply An (hg:=rfl) (hal:=rfl)
  ·intro a W' hC hE
   obtain⟨_,k1,k2⟩:=hC
   have k1:=k1.cell
   first
    |(simp at hE;simp[go_sem,Act.eval,iw,hE,k1,k2];try rfl)
    |(clear hE;simp[go_sem,Act.eval,iw,k1,k2];try rfl)
 apply A5 (NI (R)) (hg:=rfl) (hal:=rfl)
 ·exact NI.closed _
 ·intro a W' hC hE
  simp at hE
  refine⟨_,_,?_,(En R W' hRR.1 hRR.2).mono ?_⟩
  ·simp[go_sem,Act.eval,hE]
   try rfl
  ·rintro e w' ⟨v,rfl,hB,hR⟩
   exact⟨_,rfl,hR,hB⟩
 apply A5 (NI (n*t+R)) (hg:=rfl) (hal:=rfl)
 ·exact NI.closed _
 ·intro a W' hC hE
  simp at hE
  refine⟨_,_,?_,(Om _ _ (n*t) R W' hE.1 hE.2 hnt9 hR9).mono ?_⟩
  ·simp[go_sem,Act.eval]
   try rfl
  ·rintro e w' ⟨v,rfl,hB,hR⟩
   exact⟨_,rfl,hR,hB⟩
 apply Dx W1.heap.size #[.bool false,.slice none 0 0] 115 rfl rfl
 ·exact fun W' hC=>hC.1.size
 ·simp[Bn]<;>omega
 ·intro w;kernel_rfl
 rintro W2 ⟨hR,d1,d2⟩
 simp only[A6,Det,forall_eq]
 intros
 repeat (rename Am _ _ _ _=>hgd;clear hgd)
 simp only[nS]
 clear b1 b2
 have b1:=d1
 have b2:=d2
 clear d1 d2
 replace hW:=hW.trans (hR.of_priv hW.size)
 clear hR
 obtain⟨o3,rfl,hg3,b3⟩:= ‹Ex _ _ _ _ _›
 rename NI (n*t+R) _ _=>hq
 obtain⟨p1,l1,k1',rfl,hq1⟩:=Bm hq
 replace hq1:=Hd hq1
 clear hq
 have z9:=hW.size
 have z10:=b1.lt
 have z11:=b2.lt
 have z12:=b3.lt
 clear k1 f1 k2 f2
 have k1:=b1.cell
 have f1:=b1.frozen
 have k2:=b2.cell
 have f2:=b2.frozen
 have k3:=b3.cell
 have f3:=b3.frozen
 have hq2:=Hd (hq1.out.store b3 (.bool (decide (n*t+R<0))) (.slice p1 l1 k1'))
 go_upto_region 2 with(fail)
 clear k1 f1 k2 f2 k3 f3
 refine Ab w (Bc w.heap.size #[A,R,n,d] 132<|Bc (w.heap.size+1) #[.bool false,.slice none 0 0] 115<|Bc o3 #[.bool (decide (n*t+R<0)),.slice p1 l1 k1'] 115<|Rc (fun W'=>Av W' (.slice p1 l1 k1') (n*t+R).natAbs)<|Bz) ?_ (hI:=by exact Aa) (hR:=(Bc.mk (by exact Ad)<|Bc.mk (by exact Ad)<|Bc.mk (by exact Ad)<|Rc.mk (by exact hq2.out)<|trivial))
 clear b1 b2 b3 hW
 rintro W3 hW z4 ⟨⟨b1,yb1,k1,f1⟩,⟨b2,yb2,k2,f2⟩,⟨b3,yb3,k3,f3⟩,b4,-⟩
 refine Az 9 25 [] (fun W'=>Rex [] W3 W'/\Blk W' w.heap.size #[A,R,n,d] 132/\Blk W' (w.heap.size+1) #[.bool false,.slice none 0 0] 115/\Blk W' o3 #[.bool (decide (n*t+R<0)),.slice p1 l1 k1'] 115/\Av W' (.slice p1 l1 k1') (n*t+R).natAbs) Cu (by kernel_rfl) rfl ⟨(Rex.refl _ _).drew,b1,b2,b3,b4.drew⟩ (fun w w' ⟨h0,h1,h2,h3,h4⟩ hr=>⟨h0.trans hr,h1.rex hr (by simp<;>omega),h2.rex hr (by simp<;>omega),h3.rex hr (by simp<;>omega),h4.rex hr (by simp<;>omega)⟩) (fun c a d v w h=>by cases d<;>exact h) ?_
 iterate 3
  apply An (hg:=rfl) (hal:=rfl)
  ·intro a W' hC hE
   obtain⟨_,k1,k2,k3,k4⟩:=hC
   have k1:=k1.cell
   have k3:=k3.cell
   first
    |(simp at hE;simp[go_sem,Act.eval,iw,hE,k1,k2,k3,k4];try rfl)
    |(clear hE;simp[go_sem,Act.eval,iw,k1,k2,k3,k4];try rfl)
 apply A5 (NI (A)) (hg:=rfl) (hal:=rfl)
 ·exact NI.closed _
 ·intro a W' hC hE
  simp at hE
  refine⟨_,_,?_,(En A W' hA.1 hA.2).mono ?_⟩
  ·simp[go_sem,Act.eval,hE]
   try rfl
  ·rintro e w' ⟨v,rfl,hB,hR⟩
   exact⟨_,rfl,hR,hB⟩
 iterate 2
  apply An (hg:=rfl) (hal:=rfl)
  ·intro a W' hC hE
   obtain⟨_,k1,k2,k3,k4⟩:=hC
   have k1:=k1.cell
   have k3:=k3.cell
   first
    |(simp at hE;simp[go_sem,Act.eval,iw,hE,k1,k2,k3,k4];try rfl)
    |(clear hE;simp[go_sem,Act.eval,iw,k1,k2,k3,k4];try rfl)
 apply A5 (NI (d)) (hg:=rfl) (hal:=rfl)
 ·exact NI.closed _
 ·intro a W' hC hE
  simp at hE
  refine⟨_,_,?_,(En d W' hd.1 hd.2).mono ?_⟩
  ·simp[go_sem,Act.eval,hE]
   try rfl
  ·rintro e w' ⟨v,rfl,hB,hR⟩
   exact⟨_,rfl,hR,hB⟩
 apply A5 (NI (A*d)) (hg:=rfl) (hal:=rfl)
 ·exact NI.closed _
 ·intro a W' hC hE
  simp at hE
  refine⟨_,_,?_,(Zr _ _ A d W' hE.1 hE.2 hA4 hd4).mono ?_⟩
  ·simp[go_sem,Act.eval]
   try rfl
  ·rintro e w' ⟨v,rfl,hB,hR⟩
   exact⟨_,rfl,hR,hB⟩
 apply A5 (NI (n*t+R+A*d)) (hg:=rfl) (hal:=rfl)
 ·exact NI.closed _
 ·intro a W' hC hE
  simp at hE
  refine⟨_,_,?_,(Om (.agg #[.bool (decide (n*t+R<0)),.slice p1 l1 k1']) _ (n*t+R) (A*d) W' ⟨_,rfl,hC.2.2.2.2⟩ hE.2 hs9 hAd9).mono ?_⟩
  ·simp[go_sem,Act.eval,hE.1]
   try rfl
  ·rintro e w' ⟨v,rfl,hB,hR⟩
   exact⟨_,rfl,hR,hB⟩
 rintro W4 ⟨hR,d1,d2,d3,d4⟩
 simp only[A6,Det,forall_eq]
 intros
 repeat (rename Am _ _ _ _=>hgd;clear hgd)
 simp only[nS]
 clear b1 b2 b3 b4
 have b1:=d1
 have b2:=d2
 have b3:=d3
 clear d1 d2 d3 d4
 replace hW:=hW.trans (hR.of_priv hW.size)
 clear hR
 rename NI (n*t+R+A*d) _ _=>hq
 obtain⟨p2,l2,k2',rfl,hq3⟩:=Bm hq
 replace hq3:=Hd hq3
 clear hq
 clear k1 f1 k2 f2 k3 f3
 have k1:=b1.cell
 have f1:=b1.frozen
 have k2:=b2.cell
 have f2:=b2.frozen
 have k3:=b3.cell
 have f3:=b3.frozen
 have y_1:=b1.lt
 have y_2:=b2.lt
 have y_3:=b3.lt
 obtain⟨B,hB⟩:∃B,B=(decide (n*t+R+A*d<0)):=⟨_,rfl⟩
 rw[<-hB]
 replace hB:=Hd hB
 go_wp2
 refine bodyPost_ret (v:= .agg #[.bool B,.slice p2 l2 k2']) (by simp[results,Tryz.results165,go_sem,k1,f1,k2,f2,k3,f3,y_1,y_2,y_3]) rfl ⟨_,rfl,⟨_,by rw[hB.out],?_⟩,by exact Aa⟩
 have hS:=hq3.out.store b2 (.bool B) (.slice p2 l2 k2')
 simpa using hS
end Go.Proofs.YtdeghcgakkhbmaaGreat
