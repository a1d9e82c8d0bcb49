/- Parts of the proof that follows. No condition. -/
import Derived.Laws.AppendOwnNone
import Derived.Test.YtidfcoooccblaaaGreatBon15
set_option maxRecDepth 100000
set_option maxHeartbeats 8000000
set_option linter.unusedSimpArgs false
set_option linter.unusedVariables false
namespace Go.Proofs.YtidfcoooccblaaaGreat
open Go.RowKit
attribute [local simp] Oper.looksAt Op.operands Call.operands Aj Det Ao
theorem Cr {a b c d e f g h:Int} {w:World}:((if a=b then (if c=d then (if e=f then (if g=h then Result.ok (Go.Next.value (Value.bool false)) w else Result.ok (Go.Next.value (Value.bool true)) w) else Result.ok (Go.Next.value (Value.bool true)) w) else Result.ok (Go.Next.value (Value.bool true)) w) else Result.ok (Go.Next.value (Value.bool true)) w):Result Go.Next)=Result.ok (Go.Next.value (Value.bool (!(decide (a=b)&&decide (c=d)&&decide (e=f)&&decide (g=h))))) w:=by
 by_cases h1:a=b<;>by_cases h2:c=d<;>by_cases h3:e=f<;>by_cases h4:g=h<;>simp[h1,h2,h3,h4]
theorem rsame_no (K A R n d E:Int) (p q:Option Addr) (len cap vc:Nat) (V:List Int) (w:World) (K' A' R' n' d' E':Int) (p' q':Option Addr) (len' cap' m' vc':Nat) (r1:Bool)
  (hF:Hid ((K !=K'||(!decide (A=A')|| !decide (R=R')|| !decide (n=n')|| !decide (d=d'))||E !=E'|| !r1||(V.length:Int) !=(m':Int))=true))
  (c1:∀W,Below w.heap.size w W->Cb 177 #[.slice p len cap,.slice p' len' cap'] W (.bool r1)):
  Cb 145 #[.agg #[K,.slice p len cap,A,R,n,d,.slice q V.length vc,E],.agg #[K',.slice p' len' cap',A',R',n',d',.slice q' m' vc',E']] w (.bool false):=by
 have H_c1:=Hd c1
 clear c1
 go_enter Tryz.func145,Tryz.ntmps145
 go_upto_region 1 with(fail)
 refine Ad w (Bc w.heap.size #[K,.slice p len cap,A,R,n,d,.slice q V.length vc,E] 98<|Bc (w.heap.size+1) #[K',.slice p' len' cap',A',R',n',d',.slice q' m' vc',E'] 98<|Bz) ?_
 rintro W1 hW z2 hL
 refine B3 36 60 hW hL ?_
 iterate 6
  apply Ag (hg:=rfl) (hal:=rfl)
  ·intro a W' hC hE
   obtain⟨_,⟨-,-,k1,-⟩,⟨-,-,k2,-⟩,-⟩:=hC
   first
    |(simp at hE;simp[go_sem,Act.eval,iw,hE,k1,k2,Cr];try rfl)
    |(clear hE;simp[go_sem,Act.eval,iw,k1,k2,Cr];try rfl)
 iterate 5
  apply Am (p:=true) (hg:=rfl) (hd:=rfl) (hal:=rfl)
  ·intro v W' h
   simp[Aj,Det,Ao] at h
   simp
   exact h
  ·intro hp hx a W' hC hE
   obtain⟨_,⟨-,-,k1,-⟩,⟨-,-,k2,-⟩,-⟩:=hC
   simp[hx] at hE
   simp[go_sem,Act.eval,iw,hE,k1,k2,Cr]
   try rfl
 refine pO ?_
 iterate 1
  apply Ag (hg:=rfl) (hal:=rfl)
  ·intro a W' hC hE
   obtain⟨_,⟨-,-,k1,-⟩,⟨-,-,k2,-⟩,-⟩:=hC
   first
    |(simp at hE;simp[go_sem,Act.eval,iw,hE,k1,k2,Cr];try rfl)
    |(clear hE;simp[go_sem,Act.eval,iw,k1,k2,Cr];try rfl)
 iterate 5
  apply Am (p:=true) (hg:=rfl) (hd:=rfl) (hal:=rfl)
  ·intro v W' h
   simp[Aj,Det,Ao] at h
   simp
   exact h
  ·intro hp hx a W' hC hE
   obtain⟨_,⟨-,-,k1,-⟩,⟨-,-,k2,-⟩,-⟩:=hC
   simp[hx] at hE
   simp[go_sem,Act.eval,iw,hE,k1,k2,Cr]
   try rfl
 refine pO ?_
 iterate 1
  apply Ag (hg:=rfl) (hal:=rfl)
  ·intro a W' hC hE
   obtain⟨_,⟨-,-,k1,-⟩,⟨-,-,k2,-⟩,-⟩:=hC
   first
    |(simp at hE;simp[go_sem,Act.eval,iw,hE,k1,k2,Cr];try rfl)
    |(clear hE;simp[go_sem,Act.eval,iw,k1,k2,Cr];try rfl)
 iterate 4
  apply Am (p:=true) (hg:=rfl) (hd:=rfl) (hal:=rfl)
  ·intro v W' h
   simp[Aj,Det,Ao] at h
   simp
   exact h
  ·intro hp hx a W' hC hE
   obtain⟨_,⟨-,-,k1,-⟩,⟨-,-,k2,-⟩,-⟩:=hC
   simp[hx] at hE
   simp[go_sem,Act.eval,iw,hE,k1,k2,Cr]
   try rfl
 apply Cj (p:=true) (hg:=rfl) (hd:=rfl) (hal:=rfl)
 ·intro v W' h
  simp at h
  simp
  exact h
 ·intro hp hx W' hC
  exact H_c1.out W' (hW.trans (hC.1.of_priv hW.size))
 ·intro hp hx a W' hC hE
  obtain⟨_,⟨-,-,k1,-⟩,⟨-,-,k2,-⟩,-⟩:=hC
  first
   |(simp[hx] at hE;simp[go_sem,Act.eval,iw,hE,k1,k2,Cr];try rfl)
   |(clear hE;simp[go_sem,Act.eval,iw,k1,k2,Cr];try rfl)
 iterate 1
  apply Am (p:=true) (hg:=rfl) (hd:=rfl) (hal:=rfl)
  ·intro v W' h
   simp[Aj,Det,Ao] at h
   simp
   exact h
  ·intro hp hx a W' hC hE
   obtain⟨_,⟨-,-,k1,-⟩,⟨-,-,k2,-⟩,-⟩:=hC
   simp[hx] at hE
   simp[go_sem,Act.eval,iw,hE,k1,k2,Cr]
   try rfl
 refine pO ?_
 iterate 1
  apply Ag (hg:=rfl) (hal:=rfl)
  ·intro a W' hC hE
   obtain⟨_,⟨-,-,k1,-⟩,⟨-,-,k2,-⟩,-⟩:=hC
   first
    |(simp at hE;simp[go_sem,Act.eval,iw,hE,k1,k2,Cr];try rfl)
    |(clear hE;simp[go_sem,Act.eval,iw,k1,k2,Cr];try rfl)
 iterate 7
  apply Am (p:=true) (hg:=rfl) (hd:=rfl) (hal:=rfl)
  ·intro v W' h
   simp[Aj,Det,Ao] at h
   simp
   exact h
  ·intro hp hx a W' hC hE
   obtain⟨_,⟨-,-,k1,-⟩,⟨-,-,k2,-⟩,-⟩:=hC
   simp[hx] at hE
   simp[go_sem,Act.eval,iw,hE,k1,k2,Cr]
   try rfl
 refine pO ?_
 clear hW hL
 rintro W3 hW z4 hL
 simp only[ndR]
 intros
 repeat (rename Ao _ _ _ _=>hgd;clear hgd)
 simp only[ndS]
 refine wpList_nil ?_
 obtain⟨⟨b1,yb1,k1,f1⟩,⟨b2,yb2,k2,f2⟩,-⟩:=hL
 have z51:=hW.size
 have z52:=b1.lt
 have z53:=b2.lt
 rw[hF.out]
 go_wp2
 refine bodyPost_ret (v:= .bool false) (by simp[results,Tryz.results145,go_sem,k1,f1,k2,f2,yb1,yb2]) rfl ⟨rfl,hW⟩
def rsRel (w:World) (K A R n d E:Int) (p q:Option Addr) (len cap vc:Nat) (K' A' R' n' d' E':Int) (p' q':Option Addr) (len' cap' vc':Nat) (V V':List Int) (a':Act) (W:World):Prop:=
 Below w.heap.size w W/\Blk W w.heap.size #[K,.slice p len cap,A,R,n,d,.slice q V.length vc,E] 98/\Blk W (w.heap.size+1) #[K',.slice p' len' cap',A',R',n',d',.slice q' V.length vc',E'] 98/\∃(i:Nat),(∃u:Nat->Value,a'= {tmps:= #[u 0,u 1,.pointer (some ⟨w.heap.size,0,none⟩),.pointer (some ⟨w.heap.size+1,0,none⟩),.bool false,.int .i64 (i:Int),u 6,u 7,u 8,u 9,u 10,u 11,u 12,u 13,u 14,u 15,u 16,u 17,u 18,u 19,u 20,u 21,u 22,u 23,u 24,u 25,u 26,u 27,u 28,u 29,u 30,u 31,u 32,u 33,u 34,u 35,u 36,u 37,u 38,u 39,u 40,u 41,u 42,u 43,u 44,u 45,u 46,u 47,u 48,u 49,u 50,u 51,u 52,u 53,u 54,u 55,u 56,u 57,u 58,u 59],defers:= []})/\i<=V.length/\∀k,k<i->V[k]? =V'[k]?
theorem rsame_yes (K A R n d E:Int) (p q:Option Addr) (len cap vc:Nat) (V V':List Int) (w:World) (K' A' R' n' d' E':Int) (p' q':Option Addr) (len' cap' vc':Nat) (r1:Bool) (hl:V.length=V'.length) (hlen:V.length<=1000000) (hA0:Au w q V) (hB0:Au w q' V')
  (hF:Hid ((K !=K'||(!decide (A=A')|| !decide (R=R')|| !decide (n=n')|| !decide (d=d'))||E !=E'|| !r1||false)=false))
  (c1:∀W,Below w.heap.size w W->Cb 177 #[.slice p len cap,.slice p' len' cap'] W (.bool r1)):
  Cb 145 #[.agg #[K,.slice p len cap,A,R,n,d,.slice q V.length vc,E],.agg #[K',.slice p' len' cap',A',R',n',d',.slice q' V.length vc',E']] w (.bool (decide (V=V'))):=by
 replace hl:=Hd hl
 have H_c1:=Hd c1
 clear c1
 go_enter Tryz.func145,Tryz.ntmps145
 go_upto_region 1 with(fail)
 refine Ad w (Bc w.heap.size #[K,.slice p len cap,A,R,n,d,.slice q V.length vc,E] 98<|Bc (w.heap.size+1) #[K',.slice p' len' cap',A',R',n',d',.slice q' V.length vc',E'] 98<|Bz) ?_
 rintro W1 hW z2 hL
 refine B3 36 60 hW hL ?_
 iterate 6
  apply Ag (hg:=rfl) (hal:=rfl)
  ·intro a W' hC hE
   obtain⟨_,⟨-,-,k1,-⟩,⟨-,-,k2,-⟩,-⟩:=hC
   first
    |(simp at hE;simp[go_sem,Act.eval,iw,hE,k1,k2,Cr];try rfl)
    |(clear hE;simp[go_sem,Act.eval,iw,k1,k2,Cr];try rfl)
 iterate 5
  apply Am (p:=true) (hg:=rfl) (hd:=rfl) (hal:=rfl)
  ·intro v W' h
   simp[Aj,Det,Ao] at h
   simp
   exact h
  ·intro hp hx a W' hC hE
   obtain⟨_,⟨-,-,k1,-⟩,⟨-,-,k2,-⟩,-⟩:=hC
   simp[hx] at hE
   simp[go_sem,Act.eval,iw,hE,k1,k2,Cr]
   try rfl
 refine pO ?_
 iterate 1
  apply Ag (hg:=rfl) (hal:=rfl)
  ·intro a W' hC hE
   obtain⟨_,⟨-,-,k1,-⟩,⟨-,-,k2,-⟩,-⟩:=hC
   first
    |(simp at hE;simp[go_sem,Act.eval,iw,hE,k1,k2,Cr];try rfl)
    |(clear hE;simp[go_sem,Act.eval,iw,k1,k2,Cr];try rfl)
 iterate 5
  apply Am (p:=true) (hg:=rfl) (hd:=rfl) (hal:=rfl)
  ·intro v W' h
   simp[Aj,Det,Ao] at h
   simp
   exact h
  ·intro hp hx a W' hC hE
   obtain⟨_,⟨-,-,k1,-⟩,⟨-,-,k2,-⟩,-⟩:=hC
   simp[hx] at hE
   simp[go_sem,Act.eval,iw,hE,k1,k2,Cr]
   try rfl
 refine pO ?_
 iterate 1
  apply Ag (hg:=rfl) (hal:=rfl)
  ·intro a W' hC hE
   obtain⟨_,⟨-,-,k1,-⟩,⟨-,-,k2,-⟩,-⟩:=hC
   first
    |(simp at hE;simp[go_sem,Act.eval,iw,hE,k1,k2,Cr];try rfl)
    |(clear hE;simp[go_sem,Act.eval,iw,k1,k2,Cr];try rfl)
 iterate 4
  apply Am (p:=true) (hg:=rfl) (hd:=rfl) (hal:=rfl)
  ·intro v W' h
   simp[Aj,Det,Ao] at h
   simp
   exact h
  ·intro hp hx a W' hC hE
   obtain⟨_,⟨-,-,k1,-⟩,⟨-,-,k2,-⟩,-⟩:=hC
   simp[hx] at hE
   simp[go_sem,Act.eval,iw,hE,k1,k2,Cr]
   try rfl
 apply Cj (p:=true) (hg:=rfl) (hd:=rfl) (hal:=rfl)
 ·intro v W' h
  simp at h
  simp
  exact h
 ·intro hp hx W' hC
  exact H_c1.out W' (hW.trans (hC.1.of_priv hW.size))
 ·intro hp hx a W' hC hE
  obtain⟨_,⟨-,-,k1,-⟩,⟨-,-,k2,-⟩,-⟩:=hC
  first
   |(simp[hx] at hE;simp[go_sem,Act.eval,iw,hE,k1,k2,Cr];try rfl)
   |(clear hE;simp[go_sem,Act.eval,iw,k1,k2,Cr];try rfl)
 iterate 1
  apply Am (p:=true) (hg:=rfl) (hd:=rfl) (hal:=rfl)
  ·intro v W' h
   simp[Aj,Det,Ao] at h
   simp
   exact h
  ·intro hp hx a W' hC hE
   obtain⟨_,⟨-,-,k1,-⟩,⟨-,-,k2,-⟩,-⟩:=hC
   simp[hx] at hE
   simp[go_sem,Act.eval,iw,hE,k1,k2,Cr]
   try rfl
 refine pO ?_
 iterate 1
  apply Ag (hg:=rfl) (hal:=rfl)
  ·intro a W' hC hE
   obtain⟨_,⟨-,-,k1,-⟩,⟨-,-,k2,-⟩,-⟩:=hC
   first
    |(simp at hE;simp[go_sem,Act.eval,iw,hE,k1,k2,Cr];try rfl)
    |(clear hE;simp[go_sem,Act.eval,iw,k1,k2,Cr];try rfl)
 iterate 7
  apply Am (p:=true) (hg:=rfl) (hd:=rfl) (hal:=rfl)
  ·intro v W' h
   simp[Aj,Det,Ao] at h
   simp
   exact h
  ·intro hp hx a W' hC hE
   obtain⟨_,⟨-,-,k1,-⟩,⟨-,-,k2,-⟩,-⟩:=hC
   simp[hx] at hE
   simp[go_sem,Act.eval,iw,hE,k1,k2,Cr]
   try rfl
 refine pO ?_
 clear hW hL
 rintro W3 hW z4 hL
 simp only[ndR]
 intros
 repeat (rename Ao _ _ _ _=>hgd;clear hgd)
 simp only[ndS]
 refine wpList_nil ?_
 obtain⟨⟨b1,yb1,k1,f1⟩,⟨b2,yb2,k2,f2⟩,-⟩:=hL
 have z51:=hW.size
 have z52:=b1.lt
 have z53:=b2.lt
 rw[hF.out]
 go_wp2
 refine wp_loop (rsRel w K A R n d E p q len cap vc K' A' R' n' d' E' p' q' len' cap' vc' V V') (fun a' _=>V.length-(Ak (a'.tmps.getD 5 undef)).toNat) ?_ ?_
 ·unfold rsRel
  exact⟨hW,b1,b2,0,Ac rfl,by omega,fun k hk=>by omega⟩
 ·clear b1 b2 hW k1 f1 k2 f2
  rintro a' W ⟨hW0,b1,b2,i,⟨u,rfl⟩,hi',hall⟩
  have hz:=hW0.size
  have z61:=b1.lt
  have z62:=b2.lt
  replace hall:=Hd hall
  rcases Nat.lt_or_ge i V.length with hlt|hge
  ·obtain⟨r,tr⟩:∃r,V[i]? =some r:=⟨V[i]'(by omega),List.getElem?_eq_getElem (by omega)⟩
   obtain⟨t,tq⟩:∃q,V'[i]? =some q:=⟨V'[i]'(by have:=hl.out;omega),List.getElem?_eq_getElem (by have:=hl.out;omega)⟩
   obtain⟨b,o,rfl,-⟩:=hA0.at' i r tr
   obtain⟨b',o',rfl,-⟩:=hB0.at' i t tq
   have hA:C8 W b o V:=⟨hA0.below hW0⟩
   have hB:C8 W b' o' V':=⟨hB0.below hW0⟩
   replace tr:=Hd tr
   replace tq:=Hd tq
   have l1:=hlt
   have l2:i<V'.length:=by have:=hl.out;omega
   have k1:=b1.cell
   have f1:=b1.frozen
   have k2:=b2.cell
   have f2:=b2.frozen
   go_upto_region 6 with(fail)
   clear k1 f1 k2 f2
   refine Ad W (Bc w.heap.size #[K,.slice p len cap,A,R,n,d,.slice (some ⟨b,o,none⟩) V.length vc,E] 98<|Bc (w.heap.size+1) #[K',.slice p' len' cap',A',R',n',d',.slice (some ⟨b',o',none⟩) V.length vc',E'] 98<|Rc (fun W'=>C8 W' b o V)<|Rc (fun W'=>C8 W' b' o' V')<|Bz) ?_ (hI:=by exact Aa) (hR:=(Bc.mk (by exact Ab)<|Bc.mk (by exact Ab)<|Rc.mk (by exact hA.below Aa)<|Rc.mk (by exact hB.below Aa)<|trivial))
   clear b1 b2
   rintro W61 hW z62 hL
   obtain⟨⟨b1,yb1,k1,f1⟩,⟨b2,yb2,k2,f2⟩,b3,b4,-⟩:=id hL
   clear k1 f1 k2 f2
   refine C2 11 60 hW hL ?_
   iterate 11 refine dE (fun W' hC=>aI (hC.2.2.2.1.cellAt tr.out) (aI (hC.2.2.2.2.1.cellAt tq.out) (aI l1 l2))) ?_
   clear hW hL b1 b2 b3 b4
   rintro W63 hW z64 hL
   simp only[ndR]
   intros
   simp only[ndS]
   refine wpList_nil ?_
   obtain⟨⟨b1,yb1,k1,f1⟩,⟨b2,yb2,k2,f2⟩,b3,b4,-⟩:=hL
   by_cases hrq:r=t
   ·have hall':=Hd (show∀k,k<i+1->V[k]? =V'[k]? from fun k hk=>by
     rcases Nat.lt_or_ge k i with h|h
     ·exact hall.out k h
     ·obtain rfl:k=i:=by omega
      rw[tr.out,tq.out,hrq])
    rw[show (r !=t)=false by subst hrq;simp]
    clear hrq
    go_wp2
    rw[show (i:Int)+1=((i+1:Nat):Int) by omega]
    refine⟨?_,by simp[Ak];omega⟩
    unfold rsRel
    exact⟨hW0.trans (hW.mono hz),b1,b2,i+1,Ac rfl,by omega,hall'.out⟩
   ·have hne:=Hd (show decide (V=V')=false by
     rw[decide_eq_false_iff_not]
     rintro rfl
     rw[tr.out] at tq
     exact hrq (Option.some.inj tq.out))
    rw[show (r !=t)=true by simp[hrq]]
    clear hrq
    go_wp2
    go_ret
    exact⟨by rw[hne.out];rfl,hW0.trans (hW.mono hz)⟩
  ·obtain rfl:i=V.length:=by omega
   have heq:=Hd (show decide (V=V')=true by
    rw[decide_eq_true_eq]
    apply List.ext_getElem?
    intro k
    rcases Nat.lt_or_ge k V.length with h|h
    ·exact hall.out k h
    ·rw[List.getElem?_eq_none h,List.getElem?_eq_none (by have:=hl.out;omega)])
   have k1:=b1.cell
   have f1:=b1.frozen
   go_wp2
   go_ret
   exact⟨by rw[heq.out];rfl,hW0⟩
def Pd (s t:A4):Bool:=(s.K==t.K)&&(decide (s.A=t.A)&&decide (s.R=t.R)&&decide (s.n=t.n)&&decide (s.d=t.d))&&(s.E==t.E)&&decide (s.runs=t.runs)&&decide (s.raw=t.raw)
theorem X4 (s:A4):Pd s s=true:=by simp[Pd]
theorem c_refSame (s t:A4) (p q p' q':Option Addr) (cap vc cap' vc':Nat) (w:World) (h:C7 w s p q) (h':C7 w t p' q'):
  Cb 145 #[.agg (Dh s p q cap vc),.agg (Dh t p' q' cap' vc')] w (.bool (Pd s t)):=by
 have a:=h.fewR;have b:=h.fewV
 have c1:=fun(W:World) (hW:Below w.heap.size w W)=>Su p cap p' cap' s.runs t.runs W (by omega) (h.runs.below hW) (h'.runs.below hW)
 cases hF:(s.K !=t.K||(!decide (s.A=t.A)|| !decide (s.R=t.R)|| !decide (s.n=t.n)|| !decide (s.d=t.d))||s.E !=t.E|| !decide (s.runs=t.runs)||(s.raw.length:Int) !=(t.raw.length:Int)) with
 |true=>
  rw[show Pd s t=false by
   cases hs:Pd s t with
   |false=>rfl
   |true=>
    unfold Pd at hs
    simp only[Bool.and_eq_true,decide_eq_true_eq,beq_iff_eq] at hs
    obtain⟨⟨⟨⟨h1,⟨⟨h2,h3⟩,h4⟩,h5⟩,h6⟩,h7⟩,h8⟩:=hs
    rw[h1,h2,h3,h4,h5,h6,h7,h8] at hF
    simp at hF]
  exact rsame_no _ _ _ _ _ _ p q _ cap vc s.raw w _ _ _ _ _ _ p' q' _ cap' _ vc' _ (Hd hF) c1
 |false=>
  have hF':=hF
  simp only[Bool.or_eq_false_iff,Bool.not_eq_false',bne_eq_false_iff_eq,Bool.and_eq_true,decide_eq_true_eq] at hF
  obtain⟨⟨⟨⟨h1,⟨⟨h2,h3⟩,h4⟩,h5⟩,h6⟩,h7⟩,h8⟩:=hF
  have hl:s.raw.length=t.raw.length:=by omega
  rw[<-hl,show ((s.raw.length:Int) !=(s.raw.length:Int))=false by simp] at hF'
  rw[show Pd s t=decide (s.raw=t.raw) by simp[Pd,h1,h2,h3,h4,h5,h6,h7]]
  have:=rsame_yes _ _ _ _ _ _ p q _ cap vc s.raw t.raw w _ _ _ _ _ _ p' q' _ cap' vc' _ hl (by omega) h.raw h'.raw (Hd hF') c1
  unfold Dh
  rw[<-hl]
  exact this
end Go.Proofs.YtidfcoooccblaaaGreat
namespace Go.Proofs.YtidfcoooccblaaaGreat
open Go.RowKit
def X6 (w:World) (p p':Option Addr) (cap cap':Nat) (l:List A4) (a':Act) (W:World):Prop:=
 Below w.heap.size w W/\∃i:Nat,(∃u:Nat->Value,a'= {tmps:= #[.slice p l.length cap,.slice p' l.length cap',u 2,u 3,u 4,.int .i64 (i:Int),u 6,u 7,u 8,u 9,u 10,u 11,u 12,u 13,u 14,u 15,u 16,u 17,u 18,u 19,u 20,u 21,u 22,u 23,u 24,u 25,u 26],defers:= []})/\i<=l.length
theorem c_r13Same (l:List A4) (p p':Option Addr) (cap cap':Nat) (w:World) (h:Gu w p l) (h':Gu w p' l) (hl:l.length<=100):
  Cb 86 #[.slice p l.length cap,.slice p' l.length cap'] w (.bool true):=by
 go_enter Tryz.func86,Tryz.ntmps86
 go_wp2
 refine wp_loop (X6 w p p' cap cap' l) (fun a' _=>l.length-(Ak (a'.tmps.getD 5 undef)).toNat) ?_ ?_
 ·unfold X6
  exact⟨Below.refl _ _,0,Ac rfl,by omega⟩
 rintro a' W ⟨hW0,i,⟨u,rfl⟩,hi⟩
 have hz:=hW0.size
 rcases Nat.lt_or_ge i l.length with hlt|hge
 ·obtain⟨x,tr⟩:∃r,l[i]? =some r:=⟨l[i]'(by omega),List.getElem?_eq_getElem (by omega)⟩
  obtain⟨b1,o1,p1,q1,cp1,vc1,rfl,h1,g1,-⟩:=(h.below hW0).at' i x tr
  obtain⟨b2,o2,p2,q2,cp2,vc2,rfl,h2,g2,-⟩:=(h'.below hW0).at' i x tr
  have c1:=fun W' (hW':Below W.heap.size W W')=>c_refSame x x p1 q1 p2 q2 cp1 vc1 cp2 vc2 W' (g1.below hW') (g2.below hW')
  rw[X4] at c1
  unfold Dh at c1 h1 h2
  replace c1:=Hd c1
  clear tr g1 g2
  go_upto_region 6 with(fail)
  refine Ad W (Rc (fun W'=>Ef W' b1 (o1+i*8) #[x.K,.slice p1 x.runs.length cp1,x.A,x.R,x.n,x.d,.slice q1 x.raw.length vc1,x.E])<|Rc (fun W'=>Ef W' b2 (o2+i*8) #[x.K,.slice p2 x.runs.length cp2,x.A,x.R,x.n,x.d,.slice q2 x.raw.length vc2,x.E])<|Bz) ?_ (hI:=by exact Aa) (hR:=(Rc.mk (by first|exact⟨h1⟩|(exact(Ef.mk h1).below Aa))<|Rc.mk (by first|exact⟨h2⟩|(exact(Ef.mk h2).below Aa))<|trivial))
  rintro W21 hW z22 hL
  obtain⟨b1,b2,-⟩:=id hL
  refine C2 10 27 hW hL ?_
  iterate 8 refine dE (fun W' hC=>aI hlt (aI (Nat.not_le.2 hlt) (aI (hC.2.1.at' 0 _ rfl) (aI (hC.2.1.at' 1 _ rfl) (aI (hC.2.1.at' 2 _ rfl) (aI (hC.2.1.at' 3 _ rfl) (aI (hC.2.1.at' 4 _ rfl) (aI (hC.2.1.at' 5 _ rfl) (aI (hC.2.1.at' 6 _ rfl) (aI (hC.2.1.at' 7 _ rfl) (aI (hC.2.2.1.at' 0 _ rfl) (aI (hC.2.2.1.at' 1 _ rfl) (aI (hC.2.2.1.at' 2 _ rfl) (aI (hC.2.2.1.at' 3 _ rfl) (aI (hC.2.2.1.at' 4 _ rfl) (aI (hC.2.2.1.at' 5 _ rfl) (aI (hC.2.2.1.at' 6 _ rfl) (hC.2.2.1.at' 7 _ rfl)))))))))))))))))) ?_
  refine cE (fun W' hC=>aI hlt (aI (Nat.not_le.2 hlt) (aI (hC.2.1.at' 0 _ rfl) (aI (hC.2.1.at' 1 _ rfl) (aI (hC.2.1.at' 2 _ rfl) (aI (hC.2.1.at' 3 _ rfl) (aI (hC.2.1.at' 4 _ rfl) (aI (hC.2.1.at' 5 _ rfl) (aI (hC.2.1.at' 6 _ rfl) (aI (hC.2.1.at' 7 _ rfl) (aI (hC.2.2.1.at' 0 _ rfl) (aI (hC.2.2.1.at' 1 _ rfl) (aI (hC.2.2.1.at' 2 _ rfl) (aI (hC.2.2.1.at' 3 _ rfl) (aI (hC.2.2.1.at' 4 _ rfl) (aI (hC.2.2.1.at' 5 _ rfl) (aI (hC.2.2.1.at' 6 _ rfl) (hC.2.2.1.at' 7 _ rfl)))))))))))))))))) (fun W' hC=>c1.out W' (hW.trans (hC.1.of_priv hW.size))) ?_
  refine dE (fun W' hC=>aI hlt (aI (Nat.not_le.2 hlt) (aI (hC.2.1.at' 0 _ rfl) (aI (hC.2.1.at' 1 _ rfl) (aI (hC.2.1.at' 2 _ rfl) (aI (hC.2.1.at' 3 _ rfl) (aI (hC.2.1.at' 4 _ rfl) (aI (hC.2.1.at' 5 _ rfl) (aI (hC.2.1.at' 6 _ rfl) (aI (hC.2.1.at' 7 _ rfl) (aI (hC.2.2.1.at' 0 _ rfl) (aI (hC.2.2.1.at' 1 _ rfl) (aI (hC.2.2.1.at' 2 _ rfl) (aI (hC.2.2.1.at' 3 _ rfl) (aI (hC.2.2.1.at' 4 _ rfl) (aI (hC.2.2.1.at' 5 _ rfl) (aI (hC.2.2.1.at' 6 _ rfl) (hC.2.2.1.at' 7 _ rfl)))))))))))))))))) ?_
  clear hW hL b1 b2
  rintro W23 hW z24 hL
  simp only[ndR]
  intros
  simp only[ndS]
  refine wpList_nil ?_
  obtain⟨b1,b2,-⟩:=hL
  go_wp2
  rw[show (i:Int)+1=((i+1:Nat):Int) by omega]
  refine⟨?_,by simp[Ak];omega⟩
  unfold X6
  exact⟨hW0.trans (hW.mono hz),i+1,Ac rfl,by omega⟩
 ·obtain rfl:i=l.length:=by omega
  go_wp2
  go_ret
  exact⟨rfl,hW0⟩
def X5 (w:World) (s:Be) (ps1 ps2:Option Addr) (cs1 cs2:Nat) (po1 po2:Option Addr) (co1 co2:Nat) (a':Act) (W:World):Prop:=
 Below w.heap.size w W/\Blk W w.heap.size #[.string s.name,s.eps,s.floor,s.last,s.scale,.slice ps1 s.segs.length cs1,.slice po1 s.opn.length co1] 25/\Blk W (w.heap.size+1) #[.string s.name,s.eps,s.floor,s.last,s.scale,.slice ps2 s.segs.length cs2,.slice po2 s.opn.length co2] 25/\∃i:Nat,(∃u:Nat->Value,a'= {tmps:= #[u 0,u 1,.pointer (some ⟨w.heap.size,0,none⟩),.pointer (some ⟨w.heap.size+1,0,none⟩),u 4,u 5,u 6,u 7,u 8,u 9,u 10,u 11,u 12,u 13,u 14,u 15,u 16,u 17,u 18,u 19,u 20,u 21,u 22,u 23,u 24,u 25,u 26,u 27,u 28,u 29,u 30,u 31,u 32,u 33,u 34,u 35,u 36,u 37,u 38,u 39,u 40,u 41,u 42,u 43,u 44,u 45,u 46,u 47,u 48,u 49,u 50,u 51,u 52,u 53,u 54,u 55,u 56,u 57,.int .i64 (s.opn.length:Int),.int .i64 (i:Int),u 60,u 61,u 62,u 63,u 64,u 65,u 66,u 67,u 68,u 69,u 70,u 71,u 72,u 73],defers:= []})/\i<=s.opn.length
theorem Wf {w:World} {p:Option Addr} {l:List (Int×Int)} (h:Bv w p l) {i:Nat} {t y:Int} (hi:l[i]? =some (t,y)):∃b o,p=some ⟨b,o,none⟩/\Ef w b (o+i*2) #[t,y]:=by
 obtain⟨b,o,e,c0,c1⟩:=h.at' i _ hi
 refine⟨b,o,e,⟨fun j v hj=> ?_⟩⟩
 match j,hj with
 |0,hj=>
  obtain rfl:Value.int .i64 t=v:=by simpa using hj
  exact c0
 |1,hj=>
  obtain rfl:Value.int .i64 y=v:=by simpa using hj
  exact c1
theorem c_r24Same (s:Be) (ps1 ps2:Option Addr) (cs1 cs2:Nat) (po1 po2:Option Addr) (co1 co2:Nat) (w:World) (h:Av w s ps1 po1) (h':Av w s ps2 po2):
  Cb 37 #[.agg (Cg s ps1 cs1 po1 co1),.agg (Cg s ps2 cs2 po2 co2)] w (.bool true):=by
 have c1:=Hd (fun W (hW:Below w.heap.size w W)=>c_r13Same s.segs ps1 ps2 cs1 cs2 W (h.below hW).segs (h'.below hW).segs h.fewS)
 have hfO:=h.fewO
 unfold Cg
 go_enter Tryz.func37,Tryz.ntmps37
 go_upto_region 1 with(fail)
 refine Ad w (Bc w.heap.size #[.string s.name,s.eps,s.floor,s.last,s.scale,.slice ps1 s.segs.length cs1,.slice po1 s.opn.length co1] 25<|Bc (w.heap.size+1) #[.string s.name,s.eps,s.floor,s.last,s.scale,.slice ps2 s.segs.length cs2,.slice po2 s.opn.length co2] 25<|Bz) ?_
 rintro W1 hW z2 hL
 refine B3 50 74 hW hL ?_
 iterate 6 refine dA ?_
 iterate 5 refine gA ?_
 refine pO ?_
 refine dA ?_
 iterate 5 refine gA ?_
 refine pO ?_
 refine dA ?_
 iterate 5 refine gA ?_
 refine pO ?_
 refine dA ?_
 iterate 5 refine gA ?_
 refine pO ?_
 refine dA ?_
 iterate 4 refine gA ?_
 refine cG (fun hp hx W' hC=>c1.out W' (hW.trans (hC.1.of_priv hW.size))) ?_
 refine gA ?_
 refine pO ?_
 refine dA ?_
 iterate 7 refine gA ?_
 refine pO ?_
 clear hW hL
 rintro W3 hW z4 hL
 simp only[ndR]
 intros
 repeat (rename Ao _ _ _ _=>hgd;clear hgd)
 simp only[ndS]
 refine wpList_nil ?_
 obtain⟨⟨b1,yb1,k1,f1⟩,⟨b2,yb2,k2,f2⟩,-⟩:=hL
 go_wp2
 refine wp_loop (X5 w s ps1 ps2 cs1 cs2 po1 po2 co1 co2) (fun a' _=>s.opn.length-(Ak (a'.tmps.getD 59 undef)).toNat) ?_ ?_
 ·unfold X5
  exact⟨hW,b1,b2,0,Ac rfl,by omega⟩
 clear b1 b2 hW
 rintro a' W ⟨hW0,b1,b2,i,⟨u,rfl⟩,hi⟩
 have hz:=hW0.size
 have zb1:=b1.lt
 have zb2:=b2.lt
 rcases Nat.lt_or_ge i s.opn.length with hlt|hge
 ·obtain⟨⟨t,y⟩,tr⟩:∃r,s.opn[i]? =some r:=⟨s.opn[i]'(by omega),List.getElem?_eq_getElem (by omega)⟩
  obtain⟨b1',o1,rfl,h1⟩:=Wf (h.below hW0).opn tr
  obtain⟨b2',o2,rfl,h2⟩:=Wf (h'.below hW0).opn tr
  clear tr
  go_upto_region 6 with(fail)
  refine Ad W (Bc w.heap.size #[.string s.name,s.eps,s.floor,s.last,s.scale,.slice ps1 s.segs.length cs1,.slice (some ⟨b1',o1,none⟩) s.opn.length co1] 25<|Bc (w.heap.size+1) #[.string s.name,s.eps,s.floor,s.last,s.scale,.slice ps2 s.segs.length cs2,.slice (some ⟨b2',o2,none⟩) s.opn.length co2] 25<|Rc (fun W'=>Ef W' b1' (o1+i*2) #[t,y])<|Rc (fun W'=>Ef W' b2' (o2+i*2) #[t,y])<|Bz) ?_ (hI:=by exact Aa) (hR:=(Bc.mk (by exact Ab)<|Bc.mk (by exact Ab)<|Rc.mk (by first|exact h1|exact h1.below Aa)<|Rc.mk (by first|exact h2|exact h2.below Aa)<|trivial))
  clear b1 b2
  rintro W21 hW z22 hL
  obtain⟨⟨b1,yb1,k1,f1⟩,⟨b2,yb2,k2,f2⟩,b3,b4,-⟩:=id hL
  clear k1 f1 k2 f2
  refine C2 11 74 hW hL ?_
  iterate 11 refine dE (fun W' hC=>aI hlt (aI (Nat.not_le.2 hlt) (aI (hC.2.2.2.1.at' 0 _ rfl) (aI (hC.2.2.2.1.at' 1 _ rfl) (aI (hC.2.2.2.2.1.at' 0 _ rfl) (hC.2.2.2.2.1.at' 1 _ rfl)))))) ?_
  clear hW hL b1 b2 b3 b4
  rintro W23 hW z24 hL
  simp only[ndR]
  intros
  simp only[ndS]
  refine wpList_nil ?_
  obtain⟨⟨b1,yb1,k1,f1⟩,⟨b2,yb2,k2,f2⟩,b3,b4,-⟩:=hL
  go_wp2
  rw[show (i:Int)+1=((i+1:Nat):Int) by omega]
  refine⟨?_,by simp[Ak];omega⟩
  unfold X5
  exact⟨hW0.trans (hW.mono hz),b1,b2,i+1,Ac rfl,by omega⟩
 ·obtain rfl:i=s.opn.length:=by omega
  go_wp2
  go_ret
  exact⟨rfl,hW0⟩
structure Ci (w W:World):Prop where
 b:Below w.heap.size w W
theorem Ci.on {w W W':World} (h:Ci w W) (hb:Below W.heap.size W W'):Ci w W':=⟨h.b.trans (hb.mono h.b.size)⟩
theorem Ci.set {w W:World} (h:Ci w W) {g i:Nat} (hg:w.heap.size<=g) (v:Value):Ci w (W.setCell ⟨g,i,none⟩ v):=⟨h.b.setCell hg v⟩
theorem Yc (p:Option Addr) (n cap:Nat) (a b c d S T:Int) (w:World) (hS1: -((2^127:Nat):Int)<=S) (hS2:S<((2^127:Nat):Int)) (hT1: -((2^127:Nat):Int)<=T) (hT2:T<((2^127:Nat):Int))
  (c1:∀W,Below w.heap.size w W->Calls Tryz.prog 63 #[.slice p n cap] W fun e w'=>∃p1 k1 p2 k2,e= .returned (.tuple #[.slice p1 n k1,.slice p2 n k2])/\Below W.heap.size W w'/\
   (∀W2,Ci w' W2->Cb 64 #[.slice p1 n k1] W2 (.tuple #[a,c]))/\
   (∀W2,Ci w' W2->Cb 64 #[.slice p2 n k2] W2 (.tuple #[b,d]))/\
   (∀W2,Ci w' W2->Calls Tryz.prog 66 #[.slice p1 n k1] W2 fun e w3=>∃v,e= .returned v/\Bu w3 v S/\Below W2.heap.size W2 w3)/\
   (∀W2,Ci w' W2->Calls Tryz.prog 66 #[.slice p2 n k2] W2 fun e w3=>∃v,e= .returned v/\Bu w3 v T/\Below W2.heap.size W2 w3)):
  Cb 22 #[.slice p n cap] w (.agg #[.int .i64 (n:Int),a,b,c,d,.int .i64 (S/18446744073709551616),.int .u64 (S%18446744073709551616),.int .i64 (T/18446744073709551616),.int .u64 (T%18446744073709551616)]):=by
 replace hS1:=Hd hS1
 replace hS2:=Hd hS2
 replace hT1:=Hd hT1
 replace hT2:=Hd hT2
 have H_c1:=Hd c1
 clear c1
 go_enter Tryz.func22,Tryz.ntmps22
 have c1:=H_c1.out
 go_wp2_with fail
 refine(c1 _ Aa).mono ?_
 rintro e w1 ⟨p1,k1',p2,k2',rfl,hb1,c2,c3,c4,c5⟩
 have z2:=hb1.size
 try simp at z2
 refine Ae w w1 (Bc w.heap.size #[.int .i64 0,.int .i64 0,.int .i64 0,.int .i64 0,.int .i64 0,.int .i64 0,.int .u64 0,.int .i64 0,.int .u64 0] 38<|Bz) ?_
 rintro hW z3 ⟨⟨b1,yb1,k1,f1⟩,-⟩
 clear c1 H_c1
 replace c2:=Hd c2
 replace c3:=Hd c3
 replace c4:=Hd c4
 replace c5:=Hd c5
 have b2:Ci w1 w1:=⟨Below.refl _ _⟩
 go_wp2_with fail
 refine(c2.out w1 b2).mono ?_
 rintro e w4 ⟨rfl,hb4⟩
 have z5:=hb4.size
 try simp at z5
 clear k1 f1
 refine Ae w w4 (Bc w.heap.size #[.int .i64 0,.int .i64 0,.int .i64 0,.int .i64 0,.int .i64 0,.int .i64 0,.int .u64 0,.int .i64 0,.int .u64 0] 38<|Rc (fun W'=>Ci w1 W')<|Bz) ?_ (hR:=(Bc.mk (by exact Ab)<|Rc.mk (by first|exact b2|exact b2.on hb4|exact b2.set (by omega) _|exact(b2.set (by omega) _).set (by omega) _|exact b2.on Aa)<|trivial))
 clear b1 b2 hW
 rintro hW z6 ⟨⟨b1,yb1,k1,f1⟩,b2,-⟩
 clear hb4
 go_wp2_with fail
 refine(c3.out w4 b2).mono ?_
 rintro e w7 ⟨rfl,hb7⟩
 have z8:=hb7.size
 try simp at z8
 clear k1 f1
 refine Ae w w7 (Bc w.heap.size #[.int .i64 0,.int .i64 0,.int .i64 0,.int .i64 0,.int .i64 0,.int .i64 0,.int .u64 0,.int .i64 0,.int .u64 0] 38<|Rc (fun W'=>Ci w1 W')<|Bz) ?_ (hR:=(Bc.mk (by exact Ab)<|Rc.mk (by first|exact b2|exact b2.on hb7|exact b2.set (by omega) _|exact(b2.set (by omega) _).set (by omega) _|exact b2.on Aa)<|trivial))
 clear b1 b2 hW
 rintro hW z9 ⟨⟨b1,yb1,k1,f1⟩,b2,-⟩
 clear hb7
 go_upto_region 5 with(fail)
 clear k1 f1
 refine Ad w (Bc w.heap.size #[.int .i64 0,.int .i64 0,.int .i64 0,.int .i64 0,.int .i64 0,.int .i64 0,.int .u64 0,.int .i64 0,.int .u64 0] 38<|Rc (fun W'=>Ci w1 W')<|Bc w7.heap.size #[.int .i64 (n:Int),a,b,c,d,.int .i64 0,.int .u64 0,.int .i64 0,.int .u64 0] 38<|Bz) ?_ (hI:=by exact Aa) (hR:=(Bc.mk (by exact Ab)<|Rc.mk (by first|exact b2|exact b2.on hW|exact b2.set (by omega) _|exact(b2.set (by omega) _).set (by omega) _|exact b2.on Aa)<|Bc.mk (by exact Ab)<|trivial))
 clear b1 b2 hW
 rintro W10 hW z11 ⟨⟨b1,yb1,k1,f1⟩,b2,⟨b3,yb3,k3,f3⟩,-⟩
 go_wp2_with fail
 refine(c4.out W10 b2).mono ?_
 rintro e w12 ⟨v3,rfl,hN,hb12⟩
 have z13:=hb12.size
 try simp at z13
 clear k1 f1 k3 f3
 refine Ae w w12 (Bc w.heap.size #[.int .i64 0,.int .i64 0,.int .i64 0,.int .i64 0,.int .i64 0,.int .i64 0,.int .u64 0,.int .i64 0,.int .u64 0] 38<|Rc (fun W'=>Ci w1 W')<|Bc w7.heap.size #[.int .i64 (n:Int),a,b,c,d,.int .i64 0,.int .u64 0,.int .i64 0,.int .u64 0] 38<|Bz) ?_ (hR:=(Bc.mk (by exact Ab)<|Rc.mk (by first|exact b2|exact b2.on hb12|exact b2.set (by omega) _|exact(b2.set (by omega) _).set (by omega) _|exact b2.on Aa)<|Bc.mk (by exact Ab)<|trivial))
 clear b1 b2 b3 hW
 rintro hW z14 ⟨⟨b1,yb1,k1,f1⟩,b2,⟨b3,yb3,k3,f3⟩,-⟩
 replace hN:=Hd hN
 go_wp2_with fail
 refine(Sv v3 S w12 hN.out hS1.out hS2.out).mono ?_
 rintro e w15 ⟨rfl,hb15⟩
 have z16:=hb15.size
 try simp at z16
 clear k1 f1 k3 f3
 refine Ae w w15 (Bc w.heap.size #[.int .i64 0,.int .i64 0,.int .i64 0,.int .i64 0,.int .i64 0,.int .i64 0,.int .u64 0,.int .i64 0,.int .u64 0] 38<|Rc (fun W'=>Ci w1 W')<|Bc w7.heap.size #[.int .i64 (n:Int),a,b,c,d,.int .i64 0,.int .u64 0,.int .i64 0,.int .u64 0] 38<|Bz) ?_ (hR:=(Bc.mk (by exact Ab)<|Rc.mk (by first|exact b2|exact b2.on hb15|exact b2.set (by omega) _|exact(b2.set (by omega) _).set (by omega) _|exact b2.on Aa)<|Bc.mk (by exact Ab)<|trivial))
 clear b1 b2 b3 hW
 rintro hW z17 ⟨⟨b1,yb1,k1,f1⟩,b2,⟨b3,yb3,k3,f3⟩,-⟩
 clear hb15
 go_upto_region 6 with(fail)
 clear k1 f1 k3 f3
 refine Ad w (Bc w.heap.size #[.int .i64 0,.int .i64 0,.int .i64 0,.int .i64 0,.int .i64 0,.int .i64 0,.int .u64 0,.int .i64 0,.int .u64 0] 38<|Rc (fun W'=>Ci w1 W')<|Bc w7.heap.size #[.int .i64 (n:Int),a,b,c,d,.int .i64 (S/18446744073709551616),.int .u64 (S%18446744073709551616),.int .i64 0,.int .u64 0] 38<|Bz) ?_ (hI:=by exact Aa) (hR:=(Bc.mk (by exact Ab)<|Rc.mk (by first|exact b2|exact b2.on hW|exact b2.set (by omega) _|exact(b2.set (by omega) _).set (by omega) _|exact b2.on Aa)<|Bc.mk (by exact Ab)<|trivial))
 clear b1 b2 b3 hW
 rintro W18 hW z19 ⟨⟨b1,yb1,k1,f1⟩,b2,⟨b3,yb3,k3,f3⟩,-⟩
 go_wp2_with fail
 refine(c5.out W18 b2).mono ?_
 rintro e w20 ⟨v4,rfl,hN2,hb20⟩
 have z21:=hb20.size
 try simp at z21
 clear k1 f1 k3 f3
 refine Ae w w20 (Bc w.heap.size #[.int .i64 0,.int .i64 0,.int .i64 0,.int .i64 0,.int .i64 0,.int .i64 0,.int .u64 0,.int .i64 0,.int .u64 0] 38<|Rc (fun W'=>Ci w1 W')<|Bc w7.heap.size #[.int .i64 (n:Int),a,b,c,d,.int .i64 (S/18446744073709551616),.int .u64 (S%18446744073709551616),.int .i64 0,.int .u64 0] 38<|Bz) ?_ (hR:=(Bc.mk (by exact Ab)<|Rc.mk (by first|exact b2|exact b2.on hb20|exact b2.set (by omega) _|exact(b2.set (by omega) _).set (by omega) _|exact b2.on Aa)<|Bc.mk (by exact Ab)<|trivial))
 clear b1 b2 b3 hW
 rintro hW z22 ⟨⟨b1,yb1,k1,f1⟩,b2,⟨b3,yb3,k3,f3⟩,-⟩
 replace hN2:=Hd hN2
 go_wp2_with fail
 refine(Sv v4 T w20 hN2.out hT1.out hT2.out).mono ?_
 rintro e w23 ⟨rfl,hb23⟩
 have z24:=hb23.size
 try simp at z24
 clear k1 f1 k3 f3
 refine Ae w w23 (Bc w.heap.size #[.int .i64 0,.int .i64 0,.int .i64 0,.int .i64 0,.int .i64 0,.int .i64 0,.int .u64 0,.int .i64 0,.int .u64 0] 38<|Rc (fun W'=>Ci w1 W')<|Bc w7.heap.size #[.int .i64 (n:Int),a,b,c,d,.int .i64 (S/18446744073709551616),.int .u64 (S%18446744073709551616),.int .i64 0,.int .u64 0] 38<|Bz) ?_ (hR:=(Bc.mk (by exact Ab)<|Rc.mk (by first|exact b2|exact b2.on hb23|exact b2.set (by omega) _|exact(b2.set (by omega) _).set (by omega) _|exact b2.on Aa)<|Bc.mk (by exact Ab)<|trivial))
 clear b1 b2 b3 hW
 rintro hW z25 ⟨⟨b1,yb1,k1,f1⟩,b2,⟨b3,yb3,k3,f3⟩,-⟩
 clear hb23
 go_upto_region 7 with(fail)
 clear k1 f1 k3 f3
 refine Ad w (Bc w.heap.size #[.int .i64 0,.int .i64 0,.int .i64 0,.int .i64 0,.int .i64 0,.int .i64 0,.int .u64 0,.int .i64 0,.int .u64 0] 38<|Rc (fun W'=>Ci w1 W')<|Bc w7.heap.size #[.int .i64 (n:Int),a,b,c,d,.int .i64 (S/18446744073709551616),.int .u64 (S%18446744073709551616),.int .i64 (T/18446744073709551616),.int .u64 (T%18446744073709551616)] 38<|Bz) ?_ (hI:=by exact Aa) (hR:=(Bc.mk (by exact Ab)<|Rc.mk (by first|exact b2|exact b2.on hW|exact b2.set (by omega) _|exact(b2.set (by omega) _).set (by omega) _|exact b2.on Aa)<|Bc.mk (by exact Ab)<|trivial))
 clear b1 b2 b3 hW
 rintro W26 hW z27 ⟨⟨b1,yb1,k1,f1⟩,b2,⟨b3,yb3,k3,f3⟩,-⟩
 go_wp2
 refine bodyPost_ret (by simp[results,Tryz.results22,go_sem,k1,f1,k3,f3,yb1,yb3]) rfl ⟨rfl,by exact Aa⟩
attribute [local simp] Oper.looksAt Op.operands Call.operands Aj Det Ao
theorem mixed_w (X d:Int) (ps:Option Addr) (ls cs:Nat) (w:World) (hd: -9223372036854775808<=d/\d<=9223372036854775807) (hX:X.natAbs<2^800) (hd0:0<d) (hd8:d.natAbs<2^800)
  (hQ: -9223372036854775808<=X/d/\X/d<9223372036854775808) (hM: -9223372036854775808<=X%d/\X%d<9223372036854775808) (hb0:Ay w (.slice ps ls cs) X.natAbs):
  Cb 67 #[.agg #[.bool (decide (X<0)),.slice ps ls cs],.int .i64 d] w (.agg #[.int .i64 (X/d),.int .i64 (X%d)]):=by
 go_enter Tryz.func67,Tryz.ntmps67
 go_upto_region 1 with(fail)
 refine Ad w (Bc w.heap.size #[.bool (decide (X<0)),.slice ps ls cs] 132<|Bc (w.heap.size+1) #[.int .i64 0,.int .i64 0] 47<|Rc (fun W'=>Ay W' (.slice ps ls cs) X.natAbs)<|Bz) ?_ (hI:=by exact Aa) (hR:=(Bc.mk (by exact Ab)<|Bc.mk (by exact Ab)<|Rc.mk (by first|exact(hb0.alloc _).alloc _|exact hb0.below Aa)<|trivial))
 rintro W1 hW z2 ⟨⟨b1,yb1,k1,f1⟩,⟨b2,yb2,k2,f2⟩,b3,-⟩
 refine D0 9 31 [] (fun W'=>Rex [] W1 W'/\Blk W' w.heap.size #[.bool (decide (X<0)),.slice ps ls cs] 132/\Blk W' (w.heap.size+1) #[.int .i64 0,.int .i64 0] 47/\Ay W' (.slice ps ls cs) X.natAbs) Cd (by kernel_rfl) rfl ⟨(Rex.refl _ _).drew,b1,b2,b3.drew⟩ (fun w w' ⟨h0,h1,h2,h3⟩ hr=>⟨h0.trans hr,h1.rex hr (by simp<;>omega),h2.rex hr (by simp<;>omega),h3.rex hr (by simp<;>omega)⟩) (fun c a d v w h=>by cases d<;>exact h) ?_
 iterate 2
  apply Ag (hg:=rfl) (hal:=rfl)
  ·intro a W' hC hE
   obtain⟨_,k1,k2,k3⟩:=hC
   have k1:=k1.cell
   first
    |(simp at hE;simp[go_sem,Act.eval,iw,hE,k1,k2,k3];try rfl)
    |(clear hE;simp[go_sem,Act.eval,iw,k1,k2,k3];try rfl)
 apply A7 (NI d) (hg:=rfl) (hal:=rfl)
 ·exact NI.closed _
 ·intro a W' hC hE
  simp at hE
  refine⟨_,_,?_,(Ew d W' hd.1 hd.2).mono ?_⟩
  ·simp[go_sem,Act.eval,hE]
   try rfl
  ·rintro e w' ⟨v,rfl,hB,hR⟩
   exact⟨_,rfl,hR,hB⟩
 apply A7 (DV X d) (hg:=rfl) (hal:=rfl)
 ·exact DV.closed _ _
 ·intro a W' hC hE
  simp at hE
  refine⟨_,_,?_,(N9 (.agg #[.bool (decide (X<0)),.slice ps ls cs]) _ X d W' ⟨_,rfl,hC.2.2.2⟩ hE.2 hX hd0 hd8).mono ?_⟩
  ·simp[go_sem,Act.eval,hE.1]
   try rfl
  ·rintro e w' ⟨v1,v2,rfl,h1,h2,hR⟩
   exact⟨_,rfl,hR,v1,v2,rfl,h1,h2⟩
 apply D5 (DV X d) (hg:=rfl) (hal:=rfl)
 ·exact DV.closed _ _
 ·intro a W' hC hE
  simp at hE
  refine⟨_,?_,hE⟩
  simp[go_sem,Act.eval]
 apply D5 (NI (X/d)) (hg:=rfl) (hal:=rfl)
 ·exact NI.closed _
 ·intro a W' hC hE
  simp at hE
  obtain⟨v1,v2,h0,h1,h2⟩:=hE
  refine⟨v1,?_,h1⟩
  simp[go_sem,Act.eval,h0]
 apply D5 (NI (X%d)) (hg:=rfl) (hal:=rfl)
 ·exact NI.closed _
 ·intro a W' hC hE
  simp at hE
  obtain⟨v1,v2,h0,h1,h2⟩:=hE
  refine⟨v2,?_,h2⟩
  simp[go_sem,Act.eval,h0]
 apply Db W1.heap.size #[.bool false,.slice none 0 0] 132 rfl rfl
 ·exact fun W' hC=>hC.1.size
 ·simp[Bl]<;>omega
 ·intro w;kernel_rfl
 apply Db W1.heap.size #[.bool false,.slice none 0 0] 132 rfl rfl
 ·exact fun W' hC=>hC.1.size
 ·simp[Bl]<;>omega
 ·intro w;kernel_rfl
 rintro W2 ⟨hR,d1,d2,d3⟩
 simp only[Ar,Det,forall_eq]
 intros
 repeat (rename Ao _ _ _ _=>hgd;clear hgd)
 simp only[nS]
 clear b1 b2 b3 d1 d3
 have b1:=d2
 clear d2
 replace hW:=hW.trans (hR.of_priv hW.size)
 clear hR
 rename Ex _ _=>hap
 rename D9 _ _ _ _ _=>hn6
 obtain⟨o6,rfl,hg6,b3⟩:=hn6
 rename D9 _ _ _ _ _=>hn5
 obtain⟨o5,rfl,hg5,b2⟩:=hn5
 have hne:o5≠o6:=fun e=>hap 5 6 (by simp[C6,Az]) (by simp[C6,Az]) (by decide) ⟨o5,0,none⟩ (by simp[Act.put]) (by simp[Act.put,e])
 clear hap
 rename NI (X/d) _ _=>hi1
 rename NI (X%d) _ _=>hi2
 obtain⟨p1,l1,k1',rfl,hq1⟩:=Ca hi1
 obtain⟨p2,l2,k2',rfl,hq2⟩:=Ca hi2
 clear hi1 hi2
 have hS1:=Hd ((hq1.store b2 (.bool (decide (X/d<0))) (.slice p1 l1 k1')).store (show Blk _ o6 #[.bool false,.slice none 0 0] 132 from (b3.setO (by omega) 0 _).setO (by omega) 1 _) (.bool (decide (X%d<0))) (.slice p2 l2 k2'))
 have hS2:=Hd ((hq2.store b2 (.bool (decide (X/d<0))) (.slice p1 l1 k1')).store (show Blk _ o6 #[.bool false,.slice none 0 0] 132 from (b3.setO (by omega) 0 _).setO (by omega) 1 _) (.bool (decide (X%d<0))) (.slice p2 l2 k2'))
 clear hq1 hq2
 have z9:=hW.size
 have z10:=b1.lt
 have z11:=b2.lt
 have z12:=b3.lt
 have z13:W1.heap.size<=o5:=by omega
 clear k1 f1 k2 f2
 have k1:=b1.cell
 have f1:=b1.frozen
 have k2:=b2.cell
 have f2:=b2.frozen
 have k3:=b3.cell
 have f3:=b3.frozen
 go_upto_region 2 with(fail)
 clear k1 f1 k2 f2 k3 f3
 refine Ad w (Bc (w.heap.size+1) #[.int .i64 0,.int .i64 0] 47<|Bc o5 #[.bool (decide (X/d<0)),.slice p1 l1 k1'] 132<|Bc o6 #[.bool (decide (X%d<0)),.slice p2 l2 k2'] 132<|Rc (fun W'=>Ay W' (.slice p1 l1 k1') (X/d).natAbs)<|Rc (fun W'=>Ay W' (.slice p2 l2 k2') (X%d).natAbs)<|Bz) ?_ (hI:=by exact Aa) (hR:=(Bc.mk (by exact Ab)<|Bc.mk (by exact Ab)<|Bc.mk (by exact Ab)<|Rc.mk (by exact hS1.out)<|Rc.mk (by first|exact hS2.out|exact b4.below hW)<|trivial))
 clear b1 b2 b3 hW
 rintro W3 hW z4 ⟨⟨b1,yb1,k1,f1⟩,⟨b2,yb2,k2,f2⟩,⟨b3,yb3,k3,f3⟩,b4,b5,-⟩
 have hq:=Hd b4
 clear b4 hS1 hS2
 have b4:=b5
 clear b5
 go_wp2_with fail
 refine(Gf _ (X/d) _ ⟨_,rfl,hq.out⟩ hQ.1 hQ.2).mono ?_
 rintro e w5 ⟨rfl,hb5⟩
 have z6:=hb5.size
 try simp at z6
 clear k1 f1 k2 f2 k3 f3
 refine Ae w w5 (Bc (w.heap.size+1) #[.int .i64 0,.int .i64 0] 47<|Bc o5 #[.bool (decide (X/d<0)),.slice p1 l1 k1'] 132<|Bc o6 #[.bool (decide (X%d<0)),.slice p2 l2 k2'] 132<|Rc (fun W'=>Ay W' (.slice p2 l2 k2') (X%d).natAbs)<|Bz) ?_ (hR:=(Bc.mk (by exact Ab)<|Bc.mk (by exact Ab)<|Bc.mk (by exact Ab)<|Rc.mk (by first|exact hS2.out|exact b4.below hb5)<|trivial))
 clear b1 b2 b3 b4 hW
 rintro hW z7 ⟨⟨b1,yb1,k1,f1⟩,⟨b2,yb2,k2,f2⟩,⟨b3,yb3,k3,f3⟩,b4,-⟩
 clear hb5
 go_wp2_with fail
 refine(Gf _ (X%d) _ ⟨_,rfl,b4⟩ hM.1 hM.2).mono ?_
 rintro e w8 ⟨rfl,hb8⟩
 have z9:=hb8.size
 try simp at z9
 clear k1 f1 k2 f2 k3 f3
 refine Ae w w8 (Bc (w.heap.size+1) #[.int .i64 0,.int .i64 0] 47<|Bc o5 #[.bool (decide (X/d<0)),.slice p1 l1 k1'] 132<|Bc o6 #[.bool (decide (X%d<0)),.slice p2 l2 k2'] 132<|Rc (fun W'=>Ay W' (.slice p2 l2 k2') (X%d).natAbs)<|Bz) ?_ (hR:=(Bc.mk (by exact Ab)<|Bc.mk (by exact Ab)<|Bc.mk (by exact Ab)<|Rc.mk (by first|exact hS2.out|exact b4.below hb8)<|trivial))
 clear b1 b2 b3 b4 hW
 rintro hW z10 ⟨⟨b1,yb1,k1,f1⟩,⟨b2,yb2,k2,f2⟩,⟨b3,yb3,k3,f3⟩,b4,-⟩
 clear hb8
 go_wp2
 refine bodyPost_ret (by simp[results,Tryz.results67,go_sem,k1,f1,k2,f2,k3,f3,yb1,yb2,yb3]) rfl ⟨rfl,by exact Aa⟩
theorem refMean_w (p:Option Addr) (n cap:Nat) (S T x1 x2 y1 y2:Int) (w:World)
  (c1:∀W,Below w.heap.size w W->Calls Tryz.prog 63 #[.slice p n cap] W fun e w'=>∃p1 k1 p2 k2,e= .returned (.tuple #[.slice p1 n k1,.slice p2 n k2])/\Below W.heap.size W w'/\
     (∀W2,Ci w' W2->Calls Tryz.prog 66 #[.slice p1 n k1] W2 fun e w3=>∃v,e= .returned v/\Bu w3 v S/\Below W2.heap.size W2 w3)/\
     (∀W2,Ci w' W2->Calls Tryz.prog 66 #[.slice p2 n k2] W2 fun e w3=>∃v,e= .returned v/\Bu w3 v T/\Below W2.heap.size W2 w3))
  (c6:∀W va,Bu W va S->Cb 67 #[va,.int .i64 n] W (.agg #[.int .i64 x1,.int .i64 x2]))
  (c7:∀W va,Bu W va T->Cb 67 #[va,.int .i64 n] W (.agg #[.int .i64 y1,.int .i64 y2])):
  Cb 23 #[.slice p n cap] w (.agg #[.int .i64 n,.int .i64 x1,.int .i64 x2,.int .i64 y1,.int .i64 y2]):=by
 replace c6:=Hd c6
 replace c7:=Hd c7
 have H_c1:=Hd c1
 clear c1
 go_enter Tryz.func23,Tryz.ntmps23
 have c1:=H_c1.out
 go_wp2_with fail
 refine(c1 _ Aa).mono ?_
 rintro e w1 ⟨p1,k1',p2,k2',rfl,hb1,c4,c5⟩
 have z2:=hb1.size
 try simp at z2
 refine Ae w w1 (Bc w.heap.size #[.int .i64 0,.int .i64 0,.int .i64 0,.int .i64 0,.int .i64 0] 49<|Bz) ?_
 rintro hW z3 ⟨⟨b1,yb1,k1,f1⟩,-⟩
 clear c1 H_c1
 replace c4:=Hd c4
 replace c5:=Hd c5
 have b2:Ci w1 w1:=⟨Below.refl _ _⟩
 go_wp2_with fail
 refine(c4.out w1 b2).mono ?_
 rintro e w4 ⟨v3,rfl,hN,hb4⟩
 have z5:=hb4.size
 try simp at z5
 clear k1 f1
 refine Ae w w4 (Bc w.heap.size #[.int .i64 0,.int .i64 0,.int .i64 0,.int .i64 0,.int .i64 0] 49<|Rc (fun W'=>Ci w1 W')<|Bz) ?_ (hR:=(Bc.mk (by exact Ab)<|Rc.mk (by first|exact b2|exact b2.on hb4)<|trivial))
 clear b1 b2 hW
 rintro hW z6 ⟨⟨b1,yb1,k1,f1⟩,b2,-⟩
 replace hN:=Hd hN
 go_wp2_with fail
 refine(c6.out w4 v3 hN.out).mono ?_
 rintro e w7 ⟨rfl,hb7⟩
 have z8:=hb7.size
 try simp at z8
 clear k1 f1
 refine Ae w w7 (Bc w.heap.size #[.int .i64 0,.int .i64 0,.int .i64 0,.int .i64 0,.int .i64 0] 49<|Rc (fun W'=>Ci w1 W')<|Bz) ?_ (hR:=(Bc.mk (by exact Ab)<|Rc.mk (by first|exact b2|exact b2.on hb7)<|trivial))
 clear b1 b2 hW
 rintro hW z9 ⟨⟨b1,yb1,k1,f1⟩,b2,-⟩
 clear hb7
 go_wp2_with fail
 refine(c5.out w7 b2).mono ?_
 rintro e w10 ⟨v4,rfl,hN2,hb10⟩
 have z11:=hb10.size
 try simp at z11
 clear k1 f1
 refine Ae w w10 (Bc w.heap.size #[.int .i64 0,.int .i64 0,.int .i64 0,.int .i64 0,.int .i64 0] 49<|Rc (fun W'=>Ci w1 W')<|Bz) ?_ (hR:=(Bc.mk (by exact Ab)<|Rc.mk (by first|exact b2|exact b2.on hb10)<|trivial))
 clear b1 b2 hW
 rintro hW z12 ⟨⟨b1,yb1,k1,f1⟩,b2,-⟩
 replace hN2:=Hd hN2
 go_wp2_with fail
 refine(c7.out w10 v4 hN2.out).mono ?_
 rintro e w13 ⟨rfl,hb13⟩
 have z14:=hb13.size
 try simp at z14
 clear k1 f1
 refine Ae w w13 (Bc w.heap.size #[.int .i64 0,.int .i64 0,.int .i64 0,.int .i64 0,.int .i64 0] 49<|Rc (fun W'=>Ci w1 W')<|Bz) ?_ (hR:=(Bc.mk (by exact Ab)<|Rc.mk (by first|exact b2|exact b2.on hb13)<|trivial))
 clear b1 b2 hW
 rintro hW z15 ⟨⟨b1,yb1,k1,f1⟩,b2,-⟩
 clear hb13
 go_wp2
 refine bodyPost_ret (by simp[results,Tryz.results23,go_sem,k1,f1,yb1]) rfl ⟨rfl,by exact Aa⟩
theorem X9 (p:Option Addr) (n cap:Nat) (S T x y:Int) (w:World)
  (c1:∀W,Below w.heap.size w W->Calls Tryz.prog 63 #[.slice p n cap] W fun e w'=>∃p1 k1 p2 k2,e= .returned (.tuple #[.slice p1 n k1,.slice p2 n k2])/\Below W.heap.size W w'/\
   (∀W2,Ci w' W2->Calls Tryz.prog 66 #[.slice p1 n k1] W2 fun e w3=>∃v,e= .returned v/\Bu w3 v S/\Below W2.heap.size W2 w3)/\
   (∀W2,Ci w' W2->Calls Tryz.prog 66 #[.slice p2 n k2] W2 fun e w3=>∃v,e= .returned v/\Bu w3 v T/\Below W2.heap.size W2 w3))
  (c6:∀W va,Bu W va S->Cb 68 #[va] W (.tuple #[.int .i64 x,.bool true]))
  (c7:∀W va,Bu W va T->Cb 68 #[va] W (.tuple #[.int .i64 y,.bool true])):
  Cb 24 #[.slice p n cap] w (.tuple #[.agg #[.int .i64 x,.int .i64 y],.bool true]):=by
 replace c6:=Hd c6
 replace c7:=Hd c7
 have H_c1:=Hd c1
 clear c1
 go_enter Tryz.func24,Tryz.ntmps24
 have c1:=H_c1.out
 go_wp2_with fail
 refine(c1 _ Aa).mono ?_
 rintro e w1 ⟨p1,k1',p2,k2',rfl,hb1,c4,c5⟩
 have z2:=hb1.size
 try simp at z2
 refine Ae w w1 (Bc w.heap.size #[.int .i64 0,.int .i64 0] 33<|Bz) ?_
 rintro hW z3 ⟨⟨b1,yb1,k1,f1⟩,-⟩
 clear c1 H_c1
 replace c4:=Hd c4
 replace c5:=Hd c5
 have b2:Ci w1 w1:=⟨Below.refl _ _⟩
 go_wp2_with fail
 refine(c4.out w1 b2).mono ?_
 rintro e w4 ⟨v3,rfl,hN,hb4⟩
 have z5:=hb4.size
 try simp at z5
 clear k1 f1
 refine Ae w w4 (Bc w.heap.size #[.int .i64 0,.int .i64 0] 33<|Rc (fun W'=>Ci w1 W')<|Bz) ?_ (hR:=(Bc.mk (by exact Ab)<|Rc.mk (by first|exact b2|exact b2.on hb4)<|trivial))
 clear b1 b2 hW
 rintro hW z6 ⟨⟨b1,yb1,k1,f1⟩,b2,-⟩
 replace hN:=Hd hN
 go_wp2_with fail
 refine(c6.out w4 v3 hN.out).mono ?_
 rintro e w7 ⟨rfl,hb7⟩
 have z8:=hb7.size
 try simp at z8
 clear k1 f1
 refine Ae w w7 (Bc w.heap.size #[.int .i64 0,.int .i64 0] 33<|Rc (fun W'=>Ci w1 W')<|Bz) ?_ (hR:=(Bc.mk (by exact Ab)<|Rc.mk (by first|exact b2|exact b2.on hb7)<|trivial))
 clear b1 b2 hW
 rintro hW z9 ⟨⟨b1,yb1,k1,f1⟩,b2,-⟩
 clear hb7
 go_wp2_with fail
 refine(c5.out w7 b2).mono ?_
 rintro e w10 ⟨v4,rfl,hN2,hb10⟩
 have z11:=hb10.size
 try simp at z11
 clear k1 f1
 refine Ae w w10 (Bc w.heap.size #[.int .i64 0,.int .i64 0] 33<|Rc (fun W'=>Ci w1 W')<|Bz) ?_ (hR:=(Bc.mk (by exact Ab)<|Rc.mk (by first|exact b2|exact b2.on hb10)<|trivial))
 clear b1 b2 hW
 rintro hW z12 ⟨⟨b1,yb1,k1,f1⟩,b2,-⟩
 replace hN2:=Hd hN2
 go_wp2_with fail
 refine(c7.out w10 v4 hN2.out).mono ?_
 rintro e w13 ⟨rfl,hb13⟩
 have z14:=hb13.size
 try simp at z14
 clear k1 f1
 refine Ae w w13 (Bc w.heap.size #[.int .i64 0,.int .i64 0] 33<|Rc (fun W'=>Ci w1 W')<|Bz) ?_ (hR:=(Bc.mk (by exact Ab)<|Rc.mk (by first|exact b2|exact b2.on hb13)<|trivial))
 clear b1 b2 hW
 rintro hW z15 ⟨⟨b1,yb1,k1,f1⟩,b2,-⟩
 clear hb13
 go_wp2
 refine bodyPost_ret (by simp[results,Tryz.results24,go_sem,k1,f1,yb1]) rfl ⟨rfl,by exact Aa⟩
theorem Yb (p:Option Addr) (n cap:Nat) (S T x y:Int) (t:Bool) (w:World)
  (c1:∀W,Below w.heap.size w W->Calls Tryz.prog 63 #[.slice p n cap] W fun e w'=>∃p1 k1 p2 k2,e= .returned (.tuple #[.slice p1 n k1,.slice p2 n k2])/\Below W.heap.size W w'/\
   (∀W2,Ci w' W2->Calls Tryz.prog 66 #[.slice p1 n k1] W2 fun e w3=>∃v,e= .returned v/\Bu w3 v S/\Below W2.heap.size W2 w3)/\
   (∀W2,Ci w' W2->Calls Tryz.prog 66 #[.slice p2 n k2] W2 fun e w3=>∃v,e= .returned v/\Bu w3 v T/\Below W2.heap.size W2 w3))
  (c6:∀W va,Bu W va S->Cb 68 #[va] W (.tuple #[.int .i64 x,.bool false]))
  (c7:∀W va,Bu W va T->Cb 68 #[va] W (.tuple #[.int .i64 y,.bool t])):
  Cb 24 #[.slice p n cap] w (.tuple #[.agg #[.int .i64 0,.int .i64 0],.bool false]):=by
 replace c6:=Hd c6
 replace c7:=Hd c7
 have H_c1:=Hd c1
 clear c1
 go_enter Tryz.func24,Tryz.ntmps24
 have c1:=H_c1.out
 go_wp2_with fail
 refine(c1 _ Aa).mono ?_
 rintro e w1 ⟨p1,k1',p2,k2',rfl,hb1,c4,c5⟩
 have z2:=hb1.size
 try simp at z2
 refine Ae w w1 (Bc w.heap.size #[.int .i64 0,.int .i64 0] 33<|Bz) ?_
 rintro hW z3 ⟨⟨b1,yb1,k1,f1⟩,-⟩
 clear c1 H_c1
 replace c4:=Hd c4
 replace c5:=Hd c5
 have b2:Ci w1 w1:=⟨Below.refl _ _⟩
 go_wp2_with fail
 refine(c4.out w1 b2).mono ?_
 rintro e w4 ⟨v3,rfl,hN,hb4⟩
 have z5:=hb4.size
 try simp at z5
 clear k1 f1
 refine Ae w w4 (Bc w.heap.size #[.int .i64 0,.int .i64 0] 33<|Rc (fun W'=>Ci w1 W')<|Bz) ?_ (hR:=(Bc.mk (by exact Ab)<|Rc.mk (by first|exact b2|exact b2.on hb4)<|trivial))
 clear b1 b2 hW
 rintro hW z6 ⟨⟨b1,yb1,k1,f1⟩,b2,-⟩
 replace hN:=Hd hN
 go_wp2_with fail
 refine(c6.out w4 v3 hN.out).mono ?_
 rintro e w7 ⟨rfl,hb7⟩
 have z8:=hb7.size
 try simp at z8
 clear k1 f1
 refine Ae w w7 (Bc w.heap.size #[.int .i64 0,.int .i64 0] 33<|Rc (fun W'=>Ci w1 W')<|Bz) ?_ (hR:=(Bc.mk (by exact Ab)<|Rc.mk (by first|exact b2|exact b2.on hb7)<|trivial))
 clear b1 b2 hW
 rintro hW z9 ⟨⟨b1,yb1,k1,f1⟩,b2,-⟩
 clear hb7
 go_wp2_with fail
 refine(c5.out w7 b2).mono ?_
 rintro e w10 ⟨v4,rfl,hN2,hb10⟩
 have z11:=hb10.size
 try simp at z11
 clear k1 f1
 refine Ae w w10 (Bc w.heap.size #[.int .i64 0,.int .i64 0] 33<|Rc (fun W'=>Ci w1 W')<|Bz) ?_ (hR:=(Bc.mk (by exact Ab)<|Rc.mk (by first|exact b2|exact b2.on hb10)<|trivial))
 clear b1 b2 hW
 rintro hW z12 ⟨⟨b1,yb1,k1,f1⟩,b2,-⟩
 replace hN2:=Hd hN2
 go_wp2_with fail
 refine(c7.out w10 v4 hN2.out).mono ?_
 rintro e w13 ⟨rfl,hb13⟩
 have z14:=hb13.size
 try simp at z14
 clear k1 f1
 refine Ae w w13 (Bc w.heap.size #[.int .i64 0,.int .i64 0] 33<|Rc (fun W'=>Ci w1 W')<|Bz) ?_ (hR:=(Bc.mk (by exact Ab)<|Rc.mk (by first|exact b2|exact b2.on hb13)<|trivial))
 clear b1 b2 hW
 rintro hW z15 ⟨⟨b1,yb1,k1,f1⟩,b2,-⟩
 clear hb13
 go_wp2
 refine bodyPost_ret (by simp[results,Tryz.results24,go_sem,k1,f1,yb1]) rfl ⟨rfl,by exact Aa⟩
theorem Ya (p:Option Addr) (n cap:Nat) (S T x y:Int) (w:World)
  (c1:∀W,Below w.heap.size w W->Calls Tryz.prog 63 #[.slice p n cap] W fun e w'=>∃p1 k1 p2 k2,e= .returned (.tuple #[.slice p1 n k1,.slice p2 n k2])/\Below W.heap.size W w'/\
   (∀W2,Ci w' W2->Calls Tryz.prog 66 #[.slice p1 n k1] W2 fun e w3=>∃v,e= .returned v/\Bu w3 v S/\Below W2.heap.size W2 w3)/\
   (∀W2,Ci w' W2->Calls Tryz.prog 66 #[.slice p2 n k2] W2 fun e w3=>∃v,e= .returned v/\Bu w3 v T/\Below W2.heap.size W2 w3))
  (c6:∀W va,Bu W va S->Cb 68 #[va] W (.tuple #[.int .i64 x,.bool true]))
  (c7:∀W va,Bu W va T->Cb 68 #[va] W (.tuple #[.int .i64 y,.bool false])):
  Cb 24 #[.slice p n cap] w (.tuple #[.agg #[.int .i64 0,.int .i64 0],.bool false]):=by
 replace c6:=Hd c6
 replace c7:=Hd c7
 have H_c1:=Hd c1
 clear c1
 go_enter Tryz.func24,Tryz.ntmps24
 have c1:=H_c1.out
 go_wp2_with fail
 refine(c1 _ Aa).mono ?_
 rintro e w1 ⟨p1,k1',p2,k2',rfl,hb1,c4,c5⟩
 have z2:=hb1.size
 try simp at z2
 refine Ae w w1 (Bc w.heap.size #[.int .i64 0,.int .i64 0] 33<|Bz) ?_
 rintro hW z3 ⟨⟨b1,yb1,k1,f1⟩,-⟩
 clear c1 H_c1
 replace c4:=Hd c4
 replace c5:=Hd c5
 have b2:Ci w1 w1:=⟨Below.refl _ _⟩
 go_wp2_with fail
 refine(c4.out w1 b2).mono ?_
 rintro e w4 ⟨v3,rfl,hN,hb4⟩
 have z5:=hb4.size
 try simp at z5
 clear k1 f1
 refine Ae w w4 (Bc w.heap.size #[.int .i64 0,.int .i64 0] 33<|Rc (fun W'=>Ci w1 W')<|Bz) ?_ (hR:=(Bc.mk (by exact Ab)<|Rc.mk (by first|exact b2|exact b2.on hb4)<|trivial))
 clear b1 b2 hW
 rintro hW z6 ⟨⟨b1,yb1,k1,f1⟩,b2,-⟩
 replace hN:=Hd hN
 go_wp2_with fail
 refine(c6.out w4 v3 hN.out).mono ?_
 rintro e w7 ⟨rfl,hb7⟩
 have z8:=hb7.size
 try simp at z8
 clear k1 f1
 refine Ae w w7 (Bc w.heap.size #[.int .i64 0,.int .i64 0] 33<|Rc (fun W'=>Ci w1 W')<|Bz) ?_ (hR:=(Bc.mk (by exact Ab)<|Rc.mk (by first|exact b2|exact b2.on hb7)<|trivial))
 clear b1 b2 hW
 rintro hW z9 ⟨⟨b1,yb1,k1,f1⟩,b2,-⟩
 clear hb7
 go_wp2_with fail
 refine(c5.out w7 b2).mono ?_
 rintro e w10 ⟨v4,rfl,hN2,hb10⟩
 have z11:=hb10.size
 try simp at z11
 clear k1 f1
 refine Ae w w10 (Bc w.heap.size #[.int .i64 0,.int .i64 0] 33<|Rc (fun W'=>Ci w1 W')<|Bz) ?_ (hR:=(Bc.mk (by exact Ab)<|Rc.mk (by first|exact b2|exact b2.on hb10)<|trivial))
 clear b1 b2 hW
 rintro hW z12 ⟨⟨b1,yb1,k1,f1⟩,b2,-⟩
 replace hN2:=Hd hN2
 go_wp2_with fail
 refine(c7.out w10 v4 hN2.out).mono ?_
 rintro e w13 ⟨rfl,hb13⟩
 have z14:=hb13.size
 try simp at z14
 clear k1 f1
 refine Ae w w13 (Bc w.heap.size #[.int .i64 0,.int .i64 0] 33<|Rc (fun W'=>Ci w1 W')<|Bz) ?_ (hR:=(Bc.mk (by exact Ab)<|Rc.mk (by first|exact b2|exact b2.on hb13)<|trivial))
 clear b1 b2 hW
 rintro hW z15 ⟨⟨b1,yb1,k1,f1⟩,b2,-⟩
 clear hb13
 go_wp2
 refine bodyPost_ret (by simp[results,Tryz.results24,go_sem,k1,f1,yb1]) rfl ⟨rfl,by exact Aa⟩
end Go.Proofs.YtidfcoooccblaaaGreat
namespace Go.Proofs.YtidfcoooccblaaaGreat
open Go.RowKit
theorem En (l:List (Int×Int)):(loL l).length=l.length:=by unfold loL;simp
theorem Eo (l:List (Int×Int)):(hiL l).length=l.length:=by unfold hiL;simp
theorem Sn {l:List Int} (h:l≠ []):∃x,l[0]? =some x:=by
 cases l with
 |nil=>exact absurd rfl h
 |cons x l=>exact⟨x,rfl⟩
theorem lo_bd {l:List (Int×Int)} (h:Ln l):∀v,v∈loL l-> -9223372036854775808<=v/\v<=9223372036854775807:=by
 intro v hv
 unfold loL at hv
 obtain⟨x,hx,rfl⟩:=List.mem_map.1 hv
 have:=h.1 x hx
 omega
theorem hi_bd {l:List (Int×Int)} (h:Ln l):∀v,v∈hiL l-> -9223372036854775808<=v/\v<=9223372036854775807:=by
 intro v hv
 unfold hiL at hv
 obtain⟨x,hx,rfl⟩:=List.mem_map.1 hv
 have:=h.1 x hx
 omega
theorem lo_told (L:List (Int×Int×Int)):(L.map bkT).map loB=loL (L.map (·.2)):=by
 unfold loL
 rw[List.map_map,List.map_map]
 rfl
theorem hi_told (L:List (Int×Int×Int)):(L.map bkT).map hiB=hiL (L.map (·.2)):=by
 unfold hiL
 rw[List.map_map,List.map_map]
 rfl
theorem M3 (p:Option Addr) (cap:Nat) (L:List (Int×Int×Int)) (w:World) (hok:Ln (L.map (·.2))) (h:Ai w p (L.map bkT)):
  Calls Tryz.prog 63 #[.slice p L.length cap] w fun e w'=>∃p1 k1 p2 k2,e= .returned (.tuple #[.slice p1 L.length k1,.slice p2 L.length k2])/\Below w.heap.size w w'/\Au w' p1 (loL (L.map (·.2)))/\Au w' p2 (hiL (L.map (·.2))):=by
 have hl:(L.map bkT).length=L.length:=List.length_map ..
 have t:=Wo p cap (L.map bkT) w (by have:=hok.2;rw[List.length_map] at this⊢;exact this) (fun x hx=>by
  obtain⟨y,hy,rfl⟩:=List.mem_map.1 hx
  have:=hok.1 y.2 (List.mem_map.2 ⟨y,hy,rfl⟩)
  simp only[bkT]
  omega) h
 rw[hl] at t
 refine t.mono ?_
 rintro e w' ⟨v1,v2,rfl,h1,h2,hB⟩
 obtain⟨p1,k1,rfl,-⟩:=h1.form
 obtain⟨p2,k2,rfl,-⟩:=h2.form
 rw[lo_told] at h1
 rw[hi_told] at h2
 exact⟨p1,k1,p2,k2,rfl,hB,h1.ints,h2.ints⟩
theorem Uk (p:Option Addr) (cap:Nat) (L:List (Int×Int×Int)) (w:World) (hne:L≠ []) (hok:Ln (L.map (·.2))) (h:Ai w p (L.map bkT)):
  Cb 22 #[.slice p L.length cap] w (.agg (shA (L.map (·.2)))):=by
 have c1:=fun W (hW:Below w.heap.size w W)=>M3 p cap L W hok (h.below hW)
 obtain⟨l,hl⟩:∃l,L.map (·.2)=l:=⟨_,rfl⟩
 have hn:L.length=l.length:=by rw[<-hl,List.length_map]
 rw[hl] at c1 hok⊢
 rw[hn] at c1⊢
 have hls:=Jj hok
 have hlne:l≠ []:=fun e=>hne (by rw[e] at hl;simpa using hl)
 have key:=Yc p l.length cap (Bh (loL l)) (Bh (hiL l)) (Bi (loL l)) (Bi (hiL l)) (Ap (loL l)) (Ap (hiL l)) w (by simp;omega) (by simp;omega) (by simp;omega) (by simp;omega) (fun W hW=>(c1 W hW).mono (by
  rintro e w' ⟨p1,k1,p2,k2,rfl,hB,h1,h2⟩
  exact⟨p1,k1,p2,k2,rfl,hB,(fun W2 hS=>by obtain⟨x0,h0⟩:=Sn (Qu hlne);have t:=Sx p1 k1 (loL l) x0 W2 (by rw[En];have:=hok.2;omega) h0 (h1.below hS.b);rw[En] at t;exact t),(fun W2 hS=>by obtain⟨x0,h0⟩:=Sn (Q0 hlne);have t:=Sx p2 k2 (hiL l) x0 W2 (by rw[Eo];have:=hok.2;omega) h0 (h2.below hS.b);rw[Eo] at t;exact t),(fun W2 hS=>by have t:=Gg p1 k1 (loL l) W2 (by rw[En];exact hok.2) (lo_bd hok) (h1.below hS.b);rw[En] at t;exact t),(fun W2 hS=>by have t:=Gg p2 k2 (hiL l) W2 (by rw[Eo];exact hok.2) (hi_bd hok) (h2.below hS.b);rw[Eo] at t;exact t)⟩))
 unfold shA hiW loW
 exact key
theorem Wl (p:Option Addr) (cap:Nat) (L:List (Int×Int×Int)) (w:World) (hne:L≠ []) (hok:Ln (L.map (·.2))) (h:Ai w p (L.map bkT)):
  Cb 23 #[.slice p L.length cap] w (.agg (Ph (L.map (·.2)))):=by
 have c1:=fun W (hW:Below w.heap.size w W)=>M3 p cap L W hok (h.below hW)
 obtain⟨l,hl⟩:∃l,L.map (·.2)=l:=⟨_,rfl⟩
 have hn:L.length=l.length:=by rw[<-hl,List.length_map]
 rw[hl] at c1 hok⊢
 rw[hn] at c1⊢
 have hls:=Jj hok
 have hlne:l≠ []:=fun e=>hne (by rw[e] at hl;simpa using hl)
 have hpos:0<l.length:=List.length_pos_iff.2 hlne
 have bd:∀z:Int,-(2305847407260205056*(l.length:Int))<=z->z<=2305847407260205056*(l.length:Int)-> -2305847407260205056<=z/(l.length:Int)/\z/(l.length:Int)<=2305847407260205056:=fun z h1 h2=>⟨Int.le_ediv_of_mul_le (by omega) (by omega),Int.ediv_le_of_le_mul (by omega) (by omega)⟩
 have b1:=bd _ hls.1.1 hls.1.2
 have b2:=bd _ hls.2.1.1 hls.2.1.2
 have key:=refMean_w p l.length cap (Ap (loL l)) (Ap (hiL l)) (Ap (loL l)/l.length) (Ap (loL l)%l.length) (Ap (hiL l)/l.length) (Ap (hiL l)%l.length) w (fun W hW=>(c1 W hW).mono (by
  rintro e w' ⟨p1,k1,p2,k2,rfl,hB,h1,h2⟩
  exact⟨p1,k1,p2,k2,rfl,hB,(fun W2 hS=>by have t:=Gg p1 k1 (loL l) W2 (by rw[En];exact hok.2) (lo_bd hok) (h1.below hS.b);rw[En] at t;exact t),(fun W2 hS=>by have t:=Gg p2 k2 (hiL l) W2 (by rw[Eo];exact hok.2) (hi_bd hok) (h2.below hS.b);rw[Eo] at t;exact t)⟩))
  (fun W va hva=>by
   obtain⟨ps,ls,cs,rfl,hb0⟩:=Ca hva
   exact mixed_w (Ap (loL l)) l.length ps ls cs W (by omega) (Cp 128 800 (show (Ap (loL l)).natAbs<2^128 by simp;omega) (by omega)) (by omega) (Cp 128 800 (show (l.length:Int).natAbs<2^128 by simp;omega) (by omega)) (by have:=b1;omega) (by have:=Int.emod_nonneg (Ap (loL l)) (show (l.length:Int)≠0 by omega);have:=Int.emod_lt_of_pos (Ap (loL l)) (show 0<(l.length:Int) by omega);omega) hb0)
  (fun W va hva=>by
   obtain⟨ps,ls,cs,rfl,hb0⟩:=Ca hva
   exact mixed_w (Ap (hiL l)) l.length ps ls cs W (by omega) (Cp 128 800 (show (Ap (hiL l)).natAbs<2^128 by simp;omega) (by omega)) (by omega) (Cp 128 800 (show (l.length:Int).natAbs<2^128 by simp;omega) (by omega)) (by have:=b2;omega) (by have:=Int.emod_nonneg (Ap (hiL l)) (show (l.length:Int)≠0 by omega);have:=Int.emod_lt_of_pos (Ap (hiL l)) (show 0<(l.length:Int) by omega);omega) hb0)
 unfold Ph
 exact key
theorem Zb (p:Option Addr) (cap:Nat) (L:List (Int×Int×Int)) (w:World) (hne:L≠ []) (hok:Ln (L.map (·.2))) (h:Ai w p (L.map bkT)):
  Cb 24 #[.slice p L.length cap] w (.tuple #[.agg (sumV (L.map (·.2))),.bool (inI (Ap (loL (L.map (·.2))))&&inI (Ap (hiL (L.map (·.2)))))]):=by
 have c1:=fun W (hW:Below w.heap.size w W)=>M3 p cap L W hok (h.below hW)
 obtain⟨l,hl⟩:∃l,L.map (·.2)=l:=⟨_,rfl⟩
 have hn:L.length=l.length:=by rw[<-hl,List.length_map]
 rw[hl] at c1 hok⊢
 rw[hn] at c1⊢
 have hls:=Jj hok
 have hlne:l≠ []:=fun e=>hne (by rw[e] at hl;simpa using hl)
 have hC:=fun W (hW:Below w.heap.size w W)=>(c1 W hW).mono (R':=fun e w'=>∃p1 k1 p2 k2,e= .returned (.tuple #[.slice p1 l.length k1,.slice p2 l.length k2])/\Below W.heap.size W w'/\
    (∀W2,Ci w' W2->Calls Tryz.prog 66 #[.slice p1 l.length k1] W2 fun e w3=>∃v,e= .returned v/\Bu w3 v (Ap (loL l))/\Below W2.heap.size W2 w3)/\
    (∀W2,Ci w' W2->Calls Tryz.prog 66 #[.slice p2 l.length k2] W2 fun e w3=>∃v,e= .returned v/\Bu w3 v (Ap (hiL l))/\Below W2.heap.size W2 w3)) (by
  rintro e w' ⟨p1,k1,p2,k2,rfl,hB,h1,h2⟩
  exact⟨p1,k1,p2,k2,rfl,hB,(fun W2 hS=>by have t:=Gg p1 k1 (loL l) W2 (by rw[En];exact hok.2) (lo_bd hok) (h1.below hS.b);rw[En] at t;exact t),(fun W2 hS=>by have t:=Gg p2 k2 (hiL l) W2 (by rw[Eo];exact hok.2) (hi_bd hok) (h2.below hS.b);rw[Eo] at t;exact t)⟩)
 have z1:(Ap (loL l)).natAbs<2^900:=Cp 128 900 (show (Ap (loL l)).natAbs<2^128 by simp;omega) (by omega)
 have z2:(Ap (hiL l)).natAbs<2^900:=Cp 128 900 (show (Ap (hiL l)).natAbs<2^128 by simp;omega) (by omega)
 have v2:∀b,inI (Ap (hiL l))=b->∀W va,Bu W va (Ap (hiL l))->Cb 68 #[va] W (.tuple #[.int .i64 (if b then Ap (hiL l) else 0),.bool b]):=by
  intro b hb W va hva
  unfold inI at hb
  cases b with
  |true=>have hb:=of_decide_eq_true hb;exact Gf va _ W hva hb.1 (by have:=hb.2;omega)
  |false=>exact Ji va _ W hva z2 (fun hh=>of_decide_eq_false hb ⟨hh.1,by have:=hh.2;omega⟩)
 unfold sumV
 cases h1:inI (Ap (loL l)) with
 |false=>
  have i1:=h1
  unfold inI at i1
  exact Yb p l.length cap _ _ 0 _ _ w hC (fun W va hva=>Ji va _ W hva z1 (fun hh=>of_decide_eq_false i1 ⟨hh.1,by have:=hh.2;omega⟩)) (v2 _ rfl)
 |true=>
  have i1:=h1
  unfold inI at i1
  have i1:=of_decide_eq_true i1
  have c6:=fun W va (hva:Bu W va (Ap (loL l)))=>Gf va _ W hva i1.1 (by have:=i1.2;omega)
  cases h2:inI (Ap (hiL l)) with
  |false=>exact Ya p l.length cap _ _ _ _ w hC c6 (v2 _ h2)
  |true=>exact X9 p l.length cap _ _ _ _ w hC c6 (v2 _ h2)
theorem Wm (s:Be) (ps:Option Addr) (cs:Nat) (po:Option Addr) (co:Nat) (a b:Int) (w:World) (hin:Av w s ps po) (hc:Bn s=true):
  Calls Tryz.prog 21 #[.agg (Cg s ps cs po co),a,b] w fun e w'=>∃p k,e= .returned (.slice p (Ej s a b).length k)/\Ai w' p ((Ej s a b).map bkT)/\Below w.heap.size w w':=by
 refine(Ot s ps cs po co a b w hin (Ld hc)).mono ?_
 rintro e w' ⟨v,rfl,h,hB⟩
 obtain⟨p,k,rfl,-⟩:=h.form
 exact⟨p,k,rfl,h.runs,hB⟩
def Dx:Be:=⟨⟨#[97]⟩,2,3,12,0,[⟨1,[⟨0,2,4⟩],10,0,0,1,[],1⟩],[(9,20),(12,5)]⟩
theorem Av.alloc {w:World} {s:Be} {ps po:Option Addr} (h:Av w s ps po) (o:Obj):Av (w.alloc o) s ps po:=h.below ((Below.refl _ _).alloc (Nat.le_refl _) o)
def MadeV (B:Nat) (e:TypeId):Bo:=fun v w=>∃g,v= .slice (some ⟨g,0,none⟩) 0 0/\B<=g/\Blk w g #[] e
theorem MadeV.closed (B:Nat) (e:TypeId):Bj [] (MadeV B e):=fun _ _ _ hr ⟨g,e1,h1,h⟩=>⟨g,e1,h1,h.rex hr (by simp)⟩
def AppV (B:Nat) (e:TypeId) (n k:Nat) (news:List Value):Bo:=fun v w=>∃g cap cur,v= .slice (some ⟨g,0,none⟩) n cap/\B<=g/\Blk w g cur e/\n<=cap/\k<=cur.size/\cur.toList.take k=news
theorem AppV.closed (B:Nat) (e:TypeId) (n k:Nat) (news:List Value):Bj [] (AppV B e n k news):=fun _ _ _ hr ⟨g,c,cur,e1,h1,h,h2,h3,h4⟩=>⟨g,c,cur,e1,h1,h.rex hr (by simp),h2,h3,h4⟩
structure Dm where
 s:A4
 p:Option Addr
 q:Option Addr
 cap:Nat
 vc:Nat
def Gl (r:Dm):Array Value:=Dh r.s r.p r.q r.cap r.vc
def Et (l:List Dm):List Value:=l.flatMap fun r=>(Gl r).toList
theorem On (r:Dm):(Gl r).toList.length=8:=rfl
theorem Tz {α:Type} (f:α->List Value) (K:Nat) (hK:0<K) (hf:∀x,(f x).length=K):∀(l:List α) (j:Nat) (u:Value),(l.flatMap f)[j]? =some u->∃i x k,l[i]? =some x/\k<K/\j=i*K+k/\(f x)[k]? =some u
 | [],j,u,h=>by simp at h
 |x::l,j,u,h=>by
  rw[List.flatMap_cons] at h
  rcases Nat.lt_or_ge j K with hlt|hge
  ·rw[List.getElem?_append_left (by rw[hf];exact hlt)] at h
   exact⟨0,x,j,rfl,hlt,by omega,h⟩
  ·rw[List.getElem?_append_right (by rw[hf];exact hge),hf] at h
   obtain⟨i,y,k,h1,h2,h3,h4⟩:=Tz f K hK hf l (j-K) u h
   exact⟨i+1,y,k,h1,h2,by rw[Nat.add_mul];omega,h4⟩
theorem Ty {α:Type} (f:α->List Value) (K:Nat) (hf:∀x,(f x).length=K):∀(l:List α) (i:Nat) (x:α) (k:Nat) (u:Value),l[i]? =some x->(f x)[k]? =some u->(l.flatMap f)[i*K+k]? =some u
 | [],i,x,k,u,h,_=>by simp at h
 |y::l,i,x,k,u,h,hu=>by
  have hk:k<K:=by have:=(List.getElem?_eq_some_iff.1 hu).1;rw[hf] at this;exact this
  rw[List.flatMap_cons]
  cases i with
  |zero=>
   obtain rfl:y=x:=by simpa using h
   rw[List.getElem?_append_left (by rw[hf];omega)]
   simpa using hu
  |succ i=>
   rw[List.getElem?_append_right (by rw[hf,Nat.add_mul];omega),hf,show (i+1)*K+k-K=i*K+k by rw[Nat.add_mul];omega]
   exact Ty f K hf l i x k u (by simpa using h) hu
def Ec (w:World) (p:Option Addr) (l:List Dm):Prop:=∀(i:Nat) (r:Dm),l[i]? =some r->∃b o,p=some ⟨b,o,none⟩/\(∀j v,(Gl r)[j]? =some v->w.cell? ⟨b,o+i*8+j,none⟩=some v)/\Came w r.s r.p r.q r.cap r.vc
theorem Came.below {w w':World} {s:A4} {p q:Option Addr} {cap vc:Nat} (h:Came w s p q cap vc) (hb:Below w.heap.size w w'):Came w' s p q cap vc:=⟨h.runs.below hb,h.raw.below hb,h.nilR,h.nilV,h.capR,h.capV,h.maxR,h.maxV⟩
theorem Ec.below {w w':World} {p:Option Addr} {l:List Dm} (h:Ec w p l) (hb:Below w.heap.size w w'):Ec w' p l:=fun i r hr=>by
 obtain⟨b,o,e,h1,h2⟩:=h i r hr
 exact⟨b,o,e,fun j v hv=>(hb.cell (p:=⟨b,_,none⟩) (A8 (h1 j v hv))).trans (h1 j v hv),h2.below hb⟩
theorem Ec.take {w:World} {p:Option Addr} {l:List Dm} (h:Ec w p l) (k:Nat):Ec w p (l.take k):=fun i r hr=>h i r (by
 rw[List.getElem?_take] at hr
 split at hr
 ·exact hr
 ·cases hr)
theorem Ec.flat {w:World} {p:Option Addr} {l:List Dm} (h:Ec w p l) (a:Addr) (ha:p=some a) (j:Nat) (u:Value) (hu:(Et l)[j]? =some u):w.cell? (a.add j)=some u:=by
 obtain⟨i,r,k,h1,h2,rfl,h3⟩:=Tz _ 8 (by omega) On l j u hu
 obtain⟨b,o,e,h4,_⟩:=h i r h1
 rw[ha] at e
 injection e with e
 subst e
 have:=h4 k u (by simpa using h3)
 rw[show (⟨b,o,none⟩:Addr).add (i*8+k)=⟨b,o+i*8+k,none⟩ by unfold Addr.add;split<;>simp_all<;>omega]
 exact this
def Hk (cur:Array Value) (l:List Dm):Prop:=∀(i:Nat) (r:Dm),l[i]? =some r->∀k v,(Gl r)[k]? =some v->cur[i*8+k]? =some v
theorem Vd {cur:Array Value} {l:List Dm} {n:Nat} (h:cur.toList.take (n*8)=Et l) (hn:l.length=n):Hk cur l:=fun i r hr k v hv=>by
 have:=Ty _ 8 On l i r k v hr (by simpa using hv)
 unfold Et at h
 rw[<-h,List.getElem?_take] at this
 split at this
 ·simpa using this
 ·cases this
theorem Hk.set {cur:Array Value} {l:List Dm} (h:Hk cur l) {i k:Nat} {r r':Dm} (hr:l[i]? =some r) (hk:k<8) {v:Value} (he:Gl r'=(Gl r).setIfInBounds k v):Hk (cur.setIfInBounds (i*8+k) v) (l.set i r'):=fun i2 r2 hr2 k2 v2 hv2=>by
 have hk2:k2<8:=by have:=(Array.getElem?_eq_some_iff.1 hv2).1;rw[show (Gl r2).size=8 from rfl] at this;exact this
 rw[List.getElem?_set] at hr2
 split at hr2
 ·rename_i e
  subst e
  split at hr2
  ·injection hr2 with hr2
   subst hr2
   rw[he,Array.getElem?_setIfInBounds] at hv2
   split at hv2
   ·rename_i ek
    subst ek
    split at hv2
    ·have hb:i*8+k<cur.size:=by
      have h0:=h i r hr k ((Gl r)[k]'(by rw[show (Gl r).size=8 from rfl];exact hk)) (Array.getElem?_eq_getElem _)
      exact(Array.getElem?_eq_some_iff.1 h0).1
     rw[Array.getElem?_setIfInBounds,if_pos rfl,if_pos hb]
     exact hv2
    ·cases hv2
   ·rename_i ek
    rw[Array.getElem?_setIfInBounds,if_neg (by omega)]
    exact h i r hr k2 v2 hv2
  ·cases hr2
 ·rename_i e
  rw[Array.getElem?_setIfInBounds,if_neg (by omega)]
  exact h i2 r2 hr2 k2 v2 hv2
def Km (er n x y m0 m1 m2 m3 m4:Int):Array Value:= #[er,n,x,y,m0,m1,m2,m3,m4]
theorem q1_w (nm:ByteArray) (ep fl la sc:Int) (ps po:Option Addr) (ns cs no co:Nat) (a b:Int) (n er:Int) (w:World)
  (c1:∀W,Below w.heap.size w W->Cb 13 #[.agg #[.string nm,ep,fl,la,sc,.slice ps ns cs,.slice po no co],a,b] W (.tuple #[n,er])):
  Cb 140 #[.agg #[.string nm,ep,fl,la,sc,.slice ps ns cs,.slice po no co],a,b] w (.agg #[er,n,.int .i64 0,.int .i64 0,.int .i64 0,.int .i64 0,.int .i64 0,.int .i64 0,.int .i64 0]):=by
 have H_c1:=Hd c1
 clear c1
 go_enter Tryz.func140,Tryz.ntmps140
 go_wp2_with fail
 refine(H_c1.out _ Aa).mono ?_
 rintro e w1 ⟨rfl,hb1⟩
 have z2:=hb1.size
 try simp at z2
 refine Ae w w1 (Bc w.heap.size #[.string nm,ep,fl,la,sc,.slice ps ns cs,.slice po no co] 25<|Bc (w.heap.size+1) #[.int .i64 0,.int .i64 0,.int .i64 0,.int .i64 0,.int .i64 0,.int .i64 0,.int .i64 0,.int .i64 0,.int .i64 0] 67<|Bz) ?_
 rintro hW z3 ⟨⟨b1,yb1,k1,f1⟩,⟨b2,yb2,k2,f2⟩,-⟩
 clear hb1
 go_wp2
 refine bodyPost_ret (by simp[results,Tryz.results140,go_sem,k1,f1,k2,f2,yb1,yb2]) rfl ⟨rfl,by exact Aa⟩
theorem q2_w (nm:ByteArray) (ep fl la sc:Int) (ps po:Option Addr) (ns cs no co:Nat) (a b:Int) (m0 m1 m2 m3 m4 er:Int) (w:World)
  (c1:∀W,Below w.heap.size w W->Cb 20 #[.agg #[.string nm,ep,fl,la,sc,.slice ps ns cs,.slice po no co],a,b] W (.tuple #[.agg #[m0,m1,m2,m3,m4],er])):
  Cb 142 #[.agg #[.string nm,ep,fl,la,sc,.slice ps ns cs,.slice po no co],a,b] w (.agg #[er,.int .i64 0,.int .i64 0,.int .i64 0,m0,m1,m2,m3,m4]):=by
 have H_c1:=Hd c1
 clear c1
 go_enter Tryz.func142,Tryz.ntmps142
 go_wp2_with fail
 refine(H_c1.out _ Aa).mono ?_
 rintro e w1 ⟨rfl,hb1⟩
 have z2:=hb1.size
 try simp at z2
 refine Ae w w1 (Bc w.heap.size #[.string nm,ep,fl,la,sc,.slice ps ns cs,.slice po no co] 25<|Bc (w.heap.size+1) #[.int .i64 0,.int .i64 0,.int .i64 0,.int .i64 0,.int .i64 0,.int .i64 0,.int .i64 0,.int .i64 0,.int .i64 0] 67<|Bz) ?_
 rintro hW z3 ⟨⟨b1,yb1,k1,f1⟩,⟨b2,yb2,k2,f2⟩,-⟩
 clear hb1
 go_wp2
 refine bodyPost_ret (by simp[results,Tryz.results142,go_sem,k1,f1,k2,f2,yb1,yb2]) rfl ⟨rfl,by exact Aa⟩
theorem Ta (nm:ByteArray) (ep fl la sc:Int) (ps po:Option Addr) (ns cs no co:Nat) (a b:Int) (g:Nat) (x y er:Int) (w:World) (b1:Blk w g #[.func (.func 17) #[] #[]] 45)
  (c1:∀W,Below w.heap.size w W->Cb 17 #[.agg #[.string nm,ep,fl,la,sc,.slice ps ns cs,.slice po no co],a,b] W (.tuple #[.agg #[x,y],er])):
  Cb 176 #[.agg #[.string nm,ep,fl,la,sc,.slice ps ns cs,.slice po no co],a,b,.pointer (some ⟨g,0,none⟩)] w (.agg #[er,.int .i64 0,x,y,.int .i64 0,.int .i64 0,.int .i64 0,.int .i64 0,.int .i64 0]):=by
 have y1:=b1.lt
 have H_c1:=Hd c1
 clear c1
 go_enter Tryz.func176,Tryz.ntmps176
 have k1:=b1.cell
 have f1:=b1.frozen
 go_wp2_with fail
 refine(H_c1.out _ Aa).mono ?_
 rintro e w1 ⟨rfl,hb1⟩
 have z2:=hb1.size
 try simp at z2
 clear k1 f1
 refine Ae w w1 (Bc g #[.func (.func 17) #[] #[]] 45<|Bc w.heap.size #[.string nm,ep,fl,la,sc,.slice ps ns cs,.slice po no co] 25<|Bc (w.heap.size+1) #[.int .i64 0,.int .i64 0,.int .i64 0,.int .i64 0,.int .i64 0,.int .i64 0,.int .i64 0,.int .i64 0,.int .i64 0] 67<|Bz) ?_
 clear b1
 rintro hW z3 ⟨⟨b1,yb1,k1,f1⟩,⟨b2,yb2,k2,f2⟩,⟨b3,yb3,k3,f3⟩,-⟩
 clear hb1
 go_wp2
 refine bodyPost_ret (by simp[results,Tryz.results176,go_sem,k1,f1,k2,f2,k3,f3,yb1,yb2,yb3]) rfl ⟨rfl,by exact Aa⟩
theorem Va (nm:ByteArray) (ep fl la sc:Int) (ps po:Option Addr) (ns cs no co:Nat) (a b:Int) (g:Nat) (x y er:Int) (w:World) (b1:Blk w g #[.func (.func 18) #[] #[]] 45)
  (c1:∀W,Below w.heap.size w W->Cb 18 #[.agg #[.string nm,ep,fl,la,sc,.slice ps ns cs,.slice po no co],a,b] W (.tuple #[.agg #[x,y],er])):
  Cb 176 #[.agg #[.string nm,ep,fl,la,sc,.slice ps ns cs,.slice po no co],a,b,.pointer (some ⟨g,0,none⟩)] w (.agg #[er,.int .i64 0,x,y,.int .i64 0,.int .i64 0,.int .i64 0,.int .i64 0,.int .i64 0]):=by
 have y1:=b1.lt
 have H_c1:=Hd c1
 clear c1
 go_enter Tryz.func176,Tryz.ntmps176
 have k1:=b1.cell
 have f1:=b1.frozen
 go_wp2_with fail
 refine(H_c1.out _ Aa).mono ?_
 rintro e w1 ⟨rfl,hb1⟩
 have z2:=hb1.size
 try simp at z2
 clear k1 f1
 refine Ae w w1 (Bc g #[.func (.func 18) #[] #[]] 45<|Bc w.heap.size #[.string nm,ep,fl,la,sc,.slice ps ns cs,.slice po no co] 25<|Bc (w.heap.size+1) #[.int .i64 0,.int .i64 0,.int .i64 0,.int .i64 0,.int .i64 0,.int .i64 0,.int .i64 0,.int .i64 0,.int .i64 0] 67<|Bz) ?_
 clear b1
 rintro hW z3 ⟨⟨b1,yb1,k1,f1⟩,⟨b2,yb2,k2,f2⟩,⟨b3,yb3,k3,f3⟩,-⟩
 clear hb1
 go_wp2
 refine bodyPost_ret (by simp[results,Tryz.results176,go_sem,k1,f1,k2,f2,k3,f3,yb1,yb2,yb3]) rfl ⟨rfl,by exact Aa⟩
theorem Xy (nm:ByteArray) (ep fl la sc:Int) (ps po:Option Addr) (ns cs no co:Nat) (a b:Int) (g:Nat) (x y er:Int) (w:World) (b1:Blk w g #[.func (.func 19) #[] #[]] 45)
  (c1:∀W,Below w.heap.size w W->Cb 19 #[.agg #[.string nm,ep,fl,la,sc,.slice ps ns cs,.slice po no co],a,b] W (.tuple #[.agg #[x,y],er])):
  Cb 176 #[.agg #[.string nm,ep,fl,la,sc,.slice ps ns cs,.slice po no co],a,b,.pointer (some ⟨g,0,none⟩)] w (.agg #[er,.int .i64 0,x,y,.int .i64 0,.int .i64 0,.int .i64 0,.int .i64 0,.int .i64 0]):=by
 have y1:=b1.lt
 have H_c1:=Hd c1
 clear c1
 go_enter Tryz.func176,Tryz.ntmps176
 have k1:=b1.cell
 have f1:=b1.frozen
 go_wp2_with fail
 refine(H_c1.out _ Aa).mono ?_
 rintro e w1 ⟨rfl,hb1⟩
 have z2:=hb1.size
 try simp at z2
 clear k1 f1
 refine Ae w w1 (Bc g #[.func (.func 19) #[] #[]] 45<|Bc w.heap.size #[.string nm,ep,fl,la,sc,.slice ps ns cs,.slice po no co] 25<|Bc (w.heap.size+1) #[.int .i64 0,.int .i64 0,.int .i64 0,.int .i64 0,.int .i64 0,.int .i64 0,.int .i64 0,.int .i64 0,.int .i64 0] 67<|Bz) ?_
 clear b1
 rintro hW z3 ⟨⟨b1,yb1,k1,f1⟩,⟨b2,yb2,k2,f2⟩,⟨b3,yb3,k3,f3⟩,-⟩
 clear hb1
 go_wp2
 refine bodyPost_ret (by simp[results,Tryz.results176,go_sem,k1,f1,k2,f2,k3,f3,yb1,yb2,yb3]) rfl ⟨rfl,by exact Aa⟩
theorem Ui (fn:FuncId) (w:World):
  Calls Tryz.prog 141 #[.func (.func fn) #[] #[]] w fun e w'=>e= .returned (.agg #[.func (.func 176) #[] #[.pointer (some ⟨w.heap.size,0,none⟩)]])/\Below w.heap.size w w'/\Blk w' w.heap.size #[.func (.func fn) #[] #[]] 45:=by
 have hmf:∀(fn:Fn) (first cap:Array Value) (w:World),(Instr.makeFunc fn first cap).run Tryz.prog w= .ok (.func fn first cap) w:=fun _ _ _ _=>rfl
 go_enter Tryz.func141,Tryz.ntmps141
 go_wp2
 refine bodyPost_ret (v:= .agg #[.func (.func 176) #[] #[.pointer (some ⟨w.heap.size,0,none⟩)]]) (by simp[results,Tryz.results141,go_sem]) rfl ⟨rfl,Aa,Ab⟩
end Go.Proofs.YtidfcoooccblaaaGreat
