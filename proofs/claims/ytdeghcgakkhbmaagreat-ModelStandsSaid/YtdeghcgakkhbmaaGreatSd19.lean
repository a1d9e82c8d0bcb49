/- For every shelf and every model that come in: ModelStands returns true; the arguments read as before. No condition. -/
import Derived.SizedLaws
import Derived.Test.YtdeghcgakkhbmaaGreatSd18
set_option maxRecDepth 100000
set_option maxHeartbeats 8000000
set_option linter.unusedSimpArgs false
set_option linter.unusedVariables false
namespace Go.Proofs.YtdeghcgakkhbmaaGreat
open Go.RowKit
attribute [local simp] Oper.looksAt Op.operands Call.operands Af Det Am
theorem mstands_w (px py:Option Addr) (nx cx ny cy:Nat) (SL:List A8) (A:List At) (sb:Bool) (w:World)
  (c1:∀W,Below w.heap.size w W->Cb 8 #[] W (.bool true))
  (c2:∀W,Below w.heap.size w W->Calls Tryz.prog 9 #[.agg #[.slice py ny cy]] W fun e w'=>∃v,e= .returned v/\Below W.heap.size W w'/\Ew 0 A v w')
  (cS:Hid (∀W,Below w.heap.size w W->Calls Tryz.prog 11 #[.agg #[.slice px nx cx]] W fun e w'=>∃v,e= .returned v/\Below W.heap.size W w'/\Mi 0 SL v w'))
  (c3:Hid (∀W p c p' c',Gr W p SL->Ew 0 A (.agg #[.slice p' A.length c']) W->Cb 10 #[.agg #[.slice p SL.length c],.agg #[.slice p' A.length c']] W (.bool sb)))
  (c7:Hid (∀W p c p' c',Gr W p SL->Ew 0 A (.agg #[.slice p' A.length c']) W->Cb 12 #[.agg #[.slice p SL.length c],.agg #[.slice p' A.length c']] W (.bool sb)))
  (c10:Hid (∀W p c p' c',Ew 0 A (.agg #[.slice p A.length c]) W->Ew 0 A (.agg #[.slice p' A.length c']) W->Cb 13 #[.agg #[.slice p A.length c],.agg #[.slice p' A.length c']] W (.bool true))):
  Cb 3 #[.agg #[.slice px nx cx],.agg #[.slice py ny cy]] w (.bool true):=by
 have H_c1:=Hd c1
 clear c1
 have H_c2:=Hd c2
 clear c2
 go_enter Tryz.func3,Tryz.ntmps3
 go_upto_region 1 with(fail)
 refine Ab w (Bc w.heap.size #[.slice px nx cx] 24<|Bc (w.heap.size+1) #[.slice py ny cy] 27<|Bz) ?_
 rintro W1 hW z2 ⟨⟨b1,yb1,k1,f1⟩,⟨b2,yb2,k2,f2⟩,-⟩
 go_wp2_with fail
 refine(H_c1.out _ (Aa)).mono ?_
 rintro e w3 ⟨rfl,hb3⟩
 have z4:=hb3.size
 try simp at z4
 clear k1 f1 k2 f2
 refine Aj w w3 (Bc w.heap.size #[.slice px nx cx] 24<|Bc (w.heap.size+1) #[.slice py ny cy] 27<|Bz) ?_
 clear b1 b2 hW
 rintro hW z5 ⟨⟨b1,yb1,k1,f1⟩,⟨b2,yb2,k2,f2⟩,-⟩
 clear hb3
 go_upto_region 3 with(fail)
 clear k1 f1 k2 f2
 refine Ab w (Bc w.heap.size #[.slice px nx cx] 24<|Bc (w.heap.size+1) #[.slice py ny cy] 27<|Bz) ?_
 clear b1 b2 hW
 rintro W6 hW z7 ⟨⟨b1,yb1,k1,f1⟩,⟨b2,yb2,k2,f2⟩,-⟩
 go_wp2_with fail
 refine(H_c2.out _ hW).mono ?_
 rintro e w8 ⟨v,rfl,hb8,hv⟩
 have z9:=hb8.size
 try simp at z9
 clear k1 f1 k2 f2
 refine Aj w w8 (Bc w.heap.size #[.slice px nx cx] 24<|Bc (w.heap.size+1) #[.slice py ny cy] 27<|Bz) ?_
 clear b1 b2 hW
 rintro hW z10 ⟨⟨b1,yb1,k1,f1⟩,⟨b2,yb2,k2,f2⟩,-⟩
 obtain⟨pa,ca,rfl,-,-⟩:=hv.form
 go_upto_region 4 with(fail)
 clear k1 f1 k2 f2
 refine Ab w (Bc w.heap.size #[.slice px nx cx] 24<|Bc (w.heap.size+1) #[.slice py ny cy] 27<|Bc w8.heap.size #[.slice pa A.length ca] 27<|Rc (fun W'=>Ew 0 A (.agg #[.slice pa A.length ca]) W')<|Bz) ?_ (hI:=by exact Aa) (hR:=(Bc.mk (by exact Ad)<|Bc.mk (by exact Ad)<|Bc.mk (by exact Ad)<|Rc.mk (by exact hv.below (by exact Aa))<|trivial))
 clear b1 b2 hW
 rintro W11 hW z12 ⟨⟨b1,yb1,k1,f1⟩,⟨b2,yb2,k2,f2⟩,⟨b3,yb3,k3,f3⟩,b4,-⟩
 clear hv
 obtain⟨o7,ho7⟩:∃o,o=w8.heap.size:=⟨_,rfl⟩
 rw[<-ho7] at b3 k3 f3⊢
 have c2:=H_c2.out
 go_upto_region 4 with(fail)
 clear k1 f1 k2 f2 k3 f3
 refine Ab w (Bc w.heap.size #[.slice px nx cx] 24<|Bc (w.heap.size+1) #[.slice py ny cy] 27<|Bc o7 #[.slice pa A.length ca] 27<|Rc (fun W'=>Ew 0 A (.agg #[.slice pa A.length ca]) W')<|Bz) ?_ (hI:=by exact Aa) (hR:=(Bc.mk (by exact Ad)<|Bc.mk (by exact Ad)<|Bc.mk (by exact Ad)<|Rc.mk (by exact b4.below (by first|assumption|exact Aa))<|trivial))
 clear b1 b2 b3 b4 hW
 rintro W13 hW z14 hL
 obtain⟨⟨b1,yb1,k1,f1⟩,⟨b2,yb2,k2,f2⟩,⟨b3,yb3,k3,f3⟩,b4,-⟩:=id hL
 clear k1 f1 k2 f2 k3 f3
 refine Bw 16 25 hW hL ?_
 refine dA ?_
 apply A5 (Mi 0 SL) (hg:=rfl) (hal:=rfl)
 ·exact Mi.closed _ _
 ·intro a' W' hC hE
  have h9:=(hW.trans (hC.1.of_priv hW.size))
  obtain⟨_,⟨-,-,k1,-⟩,⟨-,-,k2,-⟩,⟨-,-,k3,-⟩,k4,-⟩:=hC
  simp at hE
  refine⟨_,_,?_,(cS.out W' h9).mono ?_⟩
  ·simp[go_sem,Act.eval,hE,k1]
   try rfl
  ·rintro e w' ⟨v,rfl,hB,hv⟩
   exact⟨_,rfl,hB,hv⟩
 refine dA ?_
 apply Ru (.bool sb) (hg:=rfl) (hal:=rfl)
 ·intro a' W' hC hE
  obtain⟨_,⟨-,-,k1,-⟩,⟨-,-,k2,-⟩,⟨-,-,k3,-⟩,k4,-⟩:=hC
  simp at hE
  obtain⟨h9,h8⟩:=hE
  obtain⟨p9,c9,e9,hs9⟩:=h9.form
  refine⟨_,_,?_,(c3.out W' p9 c9 pa ca hs9 k4)⟩
  simp[go_sem,Act.eval,h8,e9]
  try rfl
 refine dA ?_
 apply A5 (Mi 0 SL) (hg:=rfl) (hal:=rfl)
 ·exact Mi.closed _ _
 ·intro a' W' hC hE
  have h9:=(hW.trans (hC.1.of_priv hW.size))
  obtain⟨_,⟨-,-,k1,-⟩,⟨-,-,k2,-⟩,⟨-,-,k3,-⟩,k4,-⟩:=hC
  simp at hE
  refine⟨_,_,?_,(cS.out W' h9).mono ?_⟩
  ·simp[go_sem,Act.eval,hE,k1]
   try rfl
  ·rintro e w' ⟨v,rfl,hB,hv⟩
   exact⟨_,rfl,hB,hv⟩
 refine dA ?_
 apply Ru (.bool sb) (hg:=rfl) (hal:=rfl)
 ·intro a' W' hC hE
  obtain⟨_,⟨-,-,k1,-⟩,⟨-,-,k2,-⟩,⟨-,-,k3,-⟩,k4,-⟩:=hC
  simp at hE
  obtain⟨h9,h8⟩:=hE
  obtain⟨p9,c9,e9,hs9⟩:=h9.form
  refine⟨_,_,?_,(c7.out W' p9 c9 pa ca hs9 k4)⟩
  simp[go_sem,Act.eval,h8,e9]
  try rfl
 iterate 2 refine dA ?_
 iterate 2 refine gA ?_
 apply Rt (Ew 0 A) (p:=true) (hg:=rfl) (hd:=rfl) (hal:=rfl)
 ·exact Ew.closed _ _
 ·intro v W' h
  simp at h
  simp
  exact h
 ·intro hp hx a' W' hC hE
  have h9:=(hW.trans (hC.1.of_priv hW.size))
  obtain⟨_,⟨-,-,k1,-⟩,⟨-,-,k2,-⟩,⟨-,-,k3,-⟩,k4,-⟩:=hC
  simp[GS,hx] at hE
  refine⟨_,_,?_,(H_c2.out W' h9).mono ?_⟩
  ·simp[go_sem,Act.eval,hE]
   try rfl
  ·rintro e w' ⟨v,rfl,hB,hv⟩
   exact⟨_,rfl,hB,hv⟩
 apply L8 (p:=true) (c:= .bool true) (hg:=rfl) (hd:=rfl) (hal:=rfl)
 ·intro v W' h
  simp at h
  simp
  exact h
 ·intro hp hx a' W' hC hE
  obtain⟨_,⟨-,-,k1,-⟩,⟨-,-,k2,-⟩,⟨-,-,k3,-⟩,k4,-⟩:=hC
  simp[GS,hx] at hE
  have h9:=hE.2.1
  obtain⟨p9,c9,e9,-,-⟩:=h9.form
  rw[e9] at h9
  refine⟨_,_,?_,(c10.out W' pa ca p9 c9 k4 h9)⟩
  simp[go_sem,Act.eval,hE.1,e9]
  try rfl
 refine pA ?_
 refine dA ?_
 clear hW hL b1 b2 b3 b4
 rintro W15 hW z16 hL
 simp only[ndR]
 intros
 repeat (rename Am _ _ _ _=>hgd;clear hgd)
 simp only[ndS]
 refine wpList_nil ?_
 obtain⟨⟨b1,yb1,k1,f1⟩,⟨b2,yb2,k2,f2⟩,⟨b3,yb3,k3,f3⟩,b4,-⟩:=hL
 clear c2
 go_wp2
 refine bodyPost_ret (by simp[results,Tryz.results3,go_sem,k1,f1,k2,f2,k3,f3,yb1,yb2,yb3]) rfl ⟨rfl,by exact Aa⟩
theorem serOf_name (x:K0):(Fw x).name.size<=20:=by
 have h:=Qo (x.nm.size:Int) 20
 show (x.nm.extract 0 (mn (x.nm.size:Int) 20).toNat).size<=20
 rw[ByteArray.size_extract]
 omega
theorem Tp (px py:Option Addr) (cx cy:Nat) (X:List K0) (Y:List At) (w:World) (h:Hz w px X) (h':H7 w py Y) (hx:X.length<=9223372036854775807) (hy:Y.length<=9223372036854775807)
  (c1:∀W,Below w.heap.size w W->Cb 8 #[] W (.bool true)):
  Cb 3 #[.agg #[.slice px X.length cx],.agg #[.slice py Y.length cy]] w (.bool true):=by
 obtain⟨A,hA⟩:∃A,(Y.take 9).map Ej=A:=⟨_,rfl⟩
 obtain⟨SL,hS⟩:∃B,(X.take 9).map Fw=B:=⟨_,rfl⟩
 have hpA:Tu A:=hA▸fewP_own Y
 have hnA:FewN A:=hA▸fewN_own Y
 have hlA:A.length<=100:=hA▸own_len Y
 have hlS:SL.length<=100:=by rw[<-hS,List.length_map,List.length_take];omega
 have hmS:FewM SL:=fun i s hs=>by
  rw[<-hS,List.getElem?_map] at hs
  obtain⟨x,-,rfl⟩:=Option.map_eq_some_iff.1 hs
  have:=serOf_name x
  omega
 have c2:=fun W (hW:Below w.heap.size w W)=>c_own28M py cy Y W (h'.below hW) hy
 have cS:=fun W (hW:Below w.heap.size w W)=>Zo px cx X W (h.below hW) hx
 rw[hA] at c2
 rw[hS] at cS
 refine mstands_w px py X.length cx Y.length cy SL A (Ns SL A) w c1 (fun W hW=>(c2 W hW).mono ?_) (Hd fun W hW=>(cS W hW).mono ?_)
  (Hd fun W p c p' c' hs hm=>c_mdStands p p' c c' SL A W hs hm.got.1 hpA hlS hlA) (Hd fun W p c p' c' hs hm=>To p p' c c' SL A W hs hm.got.1 hmS hpA hnA hlS hlA)
  (Hd fun W p c p' c' hm hm'=>Ra A▸Zv A A p p' c c' W hm.got.1 hm'.got.1 hlA hpA hpA)
 ·rintro e w' ⟨v,rfl,hB',hv⟩
  exact⟨v,rfl,hB',hv.mono (Nat.zero_le _)⟩
 ·rintro e w' ⟨v,rfl,hB',hv⟩
  exact⟨v,rfl,hB',hv.mono (Nat.zero_le _)⟩
end Go.Proofs.YtdeghcgakkhbmaaGreat
namespace Go.Proofs.YtdeghcgakkhbmaaGreat
open Go.ChangeShapes Go.WideShapes Go.ChangeAt Go.RowKit Go.Deep
section
variable {H:Type} {enc:TypeId×Value->H} {w:World} {base:Nat} {spare:Nat->Bool} {held:Bool}
theorem open_raws {fuel:Nat} {cs:List Value} {x:DataW H×List MemPlace} (h:DataW.trod enc Tryz.prog w base spare held fuel 25 cs=some x):
  ∃(p:Option Addr) (rows:List At) (cap:Nat),cs= [.slice p rows.length cap]/\(p=none->rows.length=0/\cap=0)/\rows.length<=cap/\H7 w p rows/\rows.length<=9223372036854775807:=by
 have hC:Tryz.prog.cellsOf 35=6:=by kernel_rfl
 rcases open_slice (e:=35) (by kernel_rfl) h with⟨rfl,rfl⟩|⟨a,len,cap,m,k,D,Pl,rfl,hb,hl,hm,hmm,hx,hi⟩
 ·exact⟨none,[],0,rfl,fun _=>⟨rfl,rfl⟩,Nat.le_refl _,⟨fun i r hr=>by simp at hr⟩,by simp⟩
 ·have hlm:len<=m:=by rw[hmm];split<;>omega
  have hs:0<len->a=⟨a.block,a.off,none⟩:=fun h0=>by
   obtain⟨cs',hc,ht'⟩:=hi 0 (by omega)
   rw[hC] at hc
   obtain⟨_,hcl,hat⟩:=World.cells?_some hc
   have h1:=hat 0 (by omega)
   rw[List.getElem?_eq_getElem (by omega)] at h1
   simp[Addr.add] at h1
   exact Jp h1
  obtain⟨rows,rfl,hq⟩:=Ma (Q:=fun i (r:At)=>∃b o p' cap',a=⟨b,o,none⟩/\(∀j v,(Dw r p' cap')[j]? =some v->w.cell? ⟨b,o+i*6+j,none⟩=some v)/\Jh w r p' cap') len (fun i hilt=>by
   obtain⟨cs',hc,ht'⟩:=hi i (by omega)
   rw[hC] at hc
   obtain⟨_,hcl,hat⟩:=World.cells?_some hc
   obtain⟨r,p',cap',rfl,hcm⟩:=Te ht'
   refine⟨r,a.block,a.off,p',cap',hs (by omega),fun j v hv=> ?_,hcm⟩
   have hj:j<6:=by have:=(Array.getElem?_eq_some_iff.1 hv).1;rw[show (Dw r p' cap').size=6 from rfl] at this;exact this
   have h1:=hat j hj
   rw[add_add,hs (by omega),Sx,Array.getElem?_toList,hv] at h1
   rw[Nat.add_assoc]
   exact h1)
  exact⟨some a,rows,cap,rfl,(fun e=>by cases e),hl,⟨fun i r hr=>by
   obtain⟨b,o,p',cap',e,h1,h2⟩:=hq i r hr
   exact⟨b,o,p',cap',by rw[e],h1,h2⟩⟩,by have:=hm;simp[maxLen] at*;omega⟩
theorem Tryz.fieldsModel :Db Tryz.prog 27= #[(25,0)]:=by kernel_rfl
theorem open_model {r:Reach} {b0:Nat} {v:Value} {d:DataW H} {ps:List MemPlace} (hv:Value.okWide Tryz.prog w r b0 27 v) (h:DataW.Trod enc Tryz.prog w base spare held 27 v d ps):
  ∃p rows cap,v= .agg #[.slice p rows.length cap]/\H7 w p rows/\rows.length<=9223372036854775807:=by
 have hC:Tryz.prog.cellsOf 27=1:=by kernel_rfl
 have hV:Tryz.prog.cellsOf 25=1:=by kernel_rfl
 obtain⟨fs,hfs⟩:∃fs,Tryz.prog.underlying 27=some (.struct fs):=T9 Tryz.fieldsModel (by simp)
 obtain⟨cs,rfl,hsz⟩:=okWide_struct hfs hv
 obtain⟨fuel,hf⟩:=h
 obtain⟨hsz,hat⟩:=Fo Tryz.fieldsModel (by simp) hf
 rw[hC] at hsz
 obtain⟨n0,y0,h0⟩:=hat 0 _ _ rfl
 rw[hV] at h0
 obtain⟨p,rows,cap,e,_,_,h1,h2⟩:=open_raws h0
 refine⟨p,rows,cap,?_,h1,h2⟩
 congr 1
 rw[<-Array.toList_inj]
 have h3:cs.toList.length=1:=by simpa [Value.cells] using hsz
 match hcs:cs.toList,h3 with
 | [c0],_=>simp[Value.cells,hcs] at e;rw[e]
end
section
variable {H:Type} {enc:TypeId×Value->H} {w:World} {base:Nat} {spare:Nat->Bool} {held:Bool} {P:Program}
def P9 (P:Program) (t:TypeId) (d:DataW H):Prop:=∀n,n∈DataW.weights P t d->n<=reachBytes
theorem Uy {e:TypeId}:∀ {l:List (DataW H)} {d:DataW H},d∈l->∀n,n∈d.weights P e->n∈DataW.weightsAll P e l
 | [],d,h,_,_=>by cases h
 |x::l,d,h,n,hn=>by
  unfold DataW.weightsAll
  rcases List.mem_cons.1 h with rfl|h
  ·exact List.mem_append_left _ hn
  ·exact List.mem_append_right _ (Uy h n hn)
theorem P1 {t e:TypeId} {fuel len cap:Nat} {p:Option Addr} {x:DataW H×List MemPlace} (ht:P.underlying t=some (.slice e)) (h:DataW.trod enc P w base spare held fuel t [.slice p len cap]=some x) (hL:P9 P t x.1):len*P.bytesOf e<=reachBytes:=by
 rcases DataW.trod_slice ht h with⟨e1,_⟩|⟨a,len',cap',elems,rest,n,_,e1,e2,_,_,_,hl,_⟩
 ·injection e1 with e1 _
  injection e1 with _ e1 _
  subst e1
  simp
 ·injection e1 with e1 _
  injection e1 with _ e1 _
  subst e1
  have h1:=hL ((elems.length+rest.length)*P.bytesOf e) (by rw[e2];simp[DataW.weights,ht])
  exact Nat.le_trans (Nat.mul_le_mul_right _ (by omega)) h1
theorem Oa {t:TypeId} {fl:Array (TypeId×Nat)} {fuel:Nat} {cs:List Value} {x:DataW H×List MemPlace} (hf:Db P t=fl) (hne:fl.size≠0) (h:DataW.trod enc P w base spare held fuel t cs=some x) (hL:P9 P t x.1)
  (i:Nat) (ty:TypeId) (off:Nat) (hi:fl[i]? =some (ty,off)):∃n y,DataW.trod enc P w base spare held n ty ((cs.drop off).take (P.cellsOf ty))=some y/\P9 P ty y.1:=by
 unfold Db at hf
 split at hf
 ·rename_i fs hu
  obtain⟨xs,n,_,hx,hl,hxl,hat⟩:=DataW.trod_struct hu h
  subst hf
  simp only[Array.getElem?_map,Option.map_eq_some_iff,Prod.mk.injEq] at hi
  obtain⟨f,h1,h2,h3⟩:=hi
  have hh:=hat i f h1
  have hlt:i<xs.length:=by have:=(Array.getElem?_eq_some_iff.1 h1).1;omega
  rw[List.getElem?_eq_getElem hlt] at hh
  subst h2;subst h3
  refine⟨n,_,hh,fun m hm=>hL m ?_⟩
  rw[hx]
  simp only[DataW.weights,hu]
  exact DataW.weights_mem_each (j:=i) (by simp[h1]) (by simp[List.getElem?_eq_getElem hlt]) m hm
 ·subst hf;simp at hne
theorem Tb {fuel:Nat} {cs:List Value} {x:DataW H×List MemPlace} (hf:DataW.trod enc Tryz.prog w base spare held fuel 79 cs=some x) (hL:P9 Tryz.prog 79 x.1):
  ∃r ps c q d,cs=(Uc r ps c q d).toList/\Gy w r ps c q d:=by
 have hC:Tryz.prog.cellsOf 79=7:=by kernel_rfl
 have hR:Tryz.prog.cellsOf 77=1:=by kernel_rfl
 have hV:Tryz.prog.cellsOf 33=1:=by kernel_rfl
 have hS:Tryz.prog.cellsOf 9=1:=by kernel_rfl
 have bS:Tryz.prog.bytesOf 135=96:=by kernel_rfl
 have bP:Tryz.prog.bytesOf 58=16:=by kernel_rfl
 obtain⟨hsz,hat⟩:=Fo Tryz.fieldsSer (by simp) hf
 have hlt:=Oa Tryz.fieldsSer (by simp) hf hL
 rw[hC] at hsz
 match cs,hsz with
 | [c0,c1,c2,c3,c4,c5,c6],_=>
  obtain⟨n0,y0,h0⟩:=hat 0 _ _ rfl
  obtain⟨n1,y1,h1⟩:=hat 1 _ _ rfl
  obtain⟨n2,y2,h2⟩:=hat 2 _ _ rfl
  obtain⟨n3,y3,h3⟩:=hat 3 _ _ rfl
  obtain⟨n4,y4,h4⟩:=hat 4 _ _ rfl
  obtain⟨n5,y5,h5,l5⟩:=hlt 5 _ _ rfl
  obtain⟨n6,y6,h6,l6⟩:=hlt 6 _ _ rfl
  rw[hS] at h0
  rw[Tryz.isInt64.2] at h1 h2 h3
  rw[Tryz.isInt.2] at h4
  rw[hR] at h5
  rw[hV] at h6
  obtain⟨nm,e0,_⟩:=DataW.trod_string (by kernel_rfl) h0
  obtain⟨ep,e1,_,_⟩:=DataW.trod_int Tryz.isInt64.1 h1
  obtain⟨fl,e2,_,_⟩:=DataW.trod_int Tryz.isInt64.1 h2
  obtain⟨la,e3,_,_⟩:=DataW.trod_int Tryz.isInt64.1 h3
  obtain⟨sc,e4,_,_⟩:=DataW.trod_int Tryz.isInt.1 h4
  obtain⟨p,rows,cs,e5,r1,r2,r3⟩:=open_segs h5
  obtain⟨q,pts,co,e6,s1,s2,s3⟩:=Yr h6
  rw[e5] at h5
  rw[e6] at h6
  have m5:=P1 (e:=135) (by kernel_rfl) h5 l5
  have m6:=P1 (e:=58) (by kernel_rfl) h6 l6
  rw[bS] at m5
  rw[bP] at m6
  simp[Value.cells] at e0 e1 e2 e3 e4 e5 e6
  subst e0;subst e1;subst e2;subst e3;subst e4;subst e5;subst e6
  refine⟨⟨nm,ep,fl,la,sc,rows,pts⟩,p,cs,q,co,rfl,⟨⟨r3,s3,r1,s1,r2,s2⟩,?_,?_⟩⟩
  ·show rows.length*96<=140737488355328
   simp only[reachBytes] at m5
   omega
  ·show pts.length*16<=140737488355328
   simp only[reachBytes] at m6
   omega
theorem open_sers {fuel:Nat} {cs:List Value} {x:DataW H×List MemPlace} (h:DataW.trod enc Tryz.prog w base spare held fuel 22 cs=some x) (hL:P9 Tryz.prog 22 x.1):
  ∃(p:Option Addr) (rows:List K0) (cap:Nat),cs= [.slice p rows.length cap]/\Hz w p rows/\rows.length<=9223372036854775807:=by
 have hC:Tryz.prog.cellsOf 79=7:=by kernel_rfl
 have hu:Tryz.prog.underlying 22=some (.slice 79):=by kernel_rfl
 rcases DataW.trod_slice hu h with⟨rfl,_⟩|⟨a,len,cap,elems,rest,n,_,rfl,hx,hb,hl,hm,hel,hget,_⟩
 ·exact⟨none,[],0,rfl,⟨fun i r hr=>by simp at hr⟩,by simp⟩
 ·have hi:∀i,i<len->∃cs' y,w.cells? base (a.add (i*7)) 7=some cs'/\DataW.trod enc Tryz.prog w base spare held n 79 cs'=some y/\P9 Tryz.prog 79 y.1:=fun i hilt=>by
   have h1:=hget i hilt
   rw[hC,List.getElem?_eq_getElem (by omega)] at h1
   obtain⟨cs',e1,e2⟩:=Option.bind_eq_some_iff.1 h1
   refine⟨cs',_,e1,e2,fun m hm9=>hL m ?_⟩
   rw[hx]
   simp only[DataW.weights,hu]
   exact List.mem_cons_of_mem _ (List.mem_append_left _ (Uy (List.mem_map.2 ⟨_,List.getElem_mem _,rfl⟩) m hm9))
  have hs:0<len->a=⟨a.block,a.off,none⟩:=fun h0=>by
   obtain⟨cs',_,hc,_⟩:=hi 0 (by omega)
   obtain⟨_,hcl,hat⟩:=World.cells?_some hc
   have h1:=hat 0 (by omega)
   rw[List.getElem?_eq_getElem (by omega)] at h1
   simp[Addr.add] at h1
   exact Jp h1
  obtain⟨rows,rfl,hq⟩:=Ma (Q:=fun i (r:K0)=>∃b o ps c q d,a=⟨b,o,none⟩/\(∀j v,(Uc r ps c q d)[j]? =some v->w.cell? ⟨b,o+i*7+j,none⟩=some v)/\Gy w r ps c q d) len (fun i hilt=>by
   obtain⟨cs',y,hc,ht',hl'⟩:=hi i hilt
   obtain⟨_,hcl,hat⟩:=World.cells?_some hc
   obtain⟨r,ps,c,q,d,rfl,hcm⟩:=Tb ht' hl'
   refine⟨r,a.block,a.off,ps,c,q,d,hs (by omega),fun j v hv=> ?_,hcm⟩
   have hj:j<7:=by have:=(Array.getElem?_eq_some_iff.1 hv).1;rw[show (Uc r ps c q d).size=7 from rfl] at this;exact this
   have h1:=hat j hj
   rw[add_add,hs (by omega),Sx,Array.getElem?_toList,hv] at h1
   rw[Nat.add_assoc]
   exact h1)
  exact⟨some a,rows,cap,rfl,⟨fun i r hr=>by
   obtain⟨b,o,ps,c,q,d,e,h1,h2⟩:=hq i r hr
   exact⟨b,o,ps,c,q,d,by rw[e],h1,h2⟩⟩,by have:=hm;simp[maxLen] at*;omega⟩
theorem Tryz.fieldsShelf :Db Tryz.prog 24= #[(22,0)]:=by kernel_rfl
theorem open_shelf {r:Reach} {b0:Nat} {v:Value} {d:DataW H} {ps:List MemPlace} (hv:Value.okWide Tryz.prog w r b0 24 v) (h:DataW.Trod enc Tryz.prog w base spare held 24 v d ps) (hL:P9 Tryz.prog 24 d):
  ∃p rows cap,v= .agg #[.slice p rows.length cap]/\Hz w p rows/\rows.length<=9223372036854775807:=by
 have hC:Tryz.prog.cellsOf 24=1:=by kernel_rfl
 have hV:Tryz.prog.cellsOf 22=1:=by kernel_rfl
 obtain⟨fs,hfs⟩:∃fs,Tryz.prog.underlying 24=some (.struct fs):=T9 Tryz.fieldsShelf (by simp)
 obtain⟨cs,rfl,hsz⟩:=okWide_struct hfs hv
 obtain⟨fuel,hf⟩:=h
 obtain⟨hsz,-⟩:=Fo Tryz.fieldsShelf (by simp) hf
 rw[hC] at hsz
 obtain⟨n0,y0,h0,l0⟩:=Oa Tryz.fieldsShelf (by simp) hf hL 0 _ _ rfl
 rw[hV] at h0
 obtain⟨p,rows,cap,e,h1,h2⟩:=open_sers h0 l0
 refine⟨p,rows,cap,?_,h1,h2⟩
 congr 1
 rw[<-Array.toList_inj]
 have h3:cs.toList.length=1:=by simpa [Value.cells] using hsz
 match hcs:cs.toList,h3 with
 | [c0],_=>simp[Value.cells,hcs] at e;rw[e]
end
theorem S9 (os:Os) (started:os.Started) (H:Type) (enc:TypeId×Value->H):
  ReturnsInHanded {} Tryz.checked os 3 .any (Rows.modelStandsSpec.pre6 enc Tryz.prog Tryz.f3 Rows.modelStandsRow.domain false) (Rows.modelStandsSpec.post enc Tryz.prog Tryz.f3 false true false false):=by
 refine returnsInHanded_of_change_sized (C:=Tryz.checked) Tryz.ownKnob started (by kernel_rfl) Tryz.func3
  (ChangeSpec.witness6 (enc:=enc) (C:=Tryz.checked) false ⟨#[],#[.agg #[.slice none 0 0],.agg #[.slice none 0 0]],[]⟩ 8 (by kernel_rfl) (by kernel_rfl) (by kernel_rfl) (by kernel_rfl)) ?_
 intro W base args ds gs before hval0 hW hcnd hsz0 _
 have hsz:(DataW.weightsEach Tryz.prog (Tryz.f3.params.toList++Rows.modelStandsSpec.plain.varTypes Tryz.prog) (ds++gs)).all (·<=reachBytes)=true:=hsz0
 clear hsz0
 have hval:∀(j:Nat) t v,Tryz.f3.params[j]? =some t->args[j]? =some v->Value.okWide Tryz.prog W .any base t v:=hval0
 have hW':=hW
 obtain⟨p,q,hA0,hV,rfl,hfz,hnd⟩:=hW
 have hA:DataW.TrodAll enc Tryz.prog W 0 (fun _=>true) true Tryz.f3.params.toList args.toList ds p:=hA0
 rw[Tryz.params3] at hA hval hsz
 obtain⟨v0,vs0,d0,ds0,p0,q0,hargs,rfl,rfl,h0,hA⟩:=trodAll_cons hA
 obtain⟨v1,vs1,d1,ds1,p1,q1,rfl,rfl,rfl,h1,hA⟩:=trodAll_cons hA
 obtain⟨rfl,rfl,rfl⟩:=trodAll_nil hA
 obtain rfl:args= #[v0,v1]:=by rw[<-Array.toList_inj,hargs]
 obtain⟨rfl,rfl⟩:=trodVars_none hV
 have l0:P9 Tryz.prog 24 d0:=fun n hn=>by simpa using List.all_eq_true.1 hsz n (DataW.weights_mem_each (j:=0) rfl rfl n hn)
 obtain⟨px,X,cx,rfl,hx,hlx⟩:=open_shelf (hval 0 _ v0 rfl rfl) h0 l0
 obtain⟨py,Y,cy,rfl,hy,hly⟩:=open_model (hval 1 _ v1 rfl rfl) h1
 clear hA0 hval0
 refine(Tp px py cx cy X Y W hx hy hlx hly (fun W' _=>Ty W')).mono fun e W' ⟨he,hb⟩=> ?_
 subst he
 exact⟨_,rfl,law_post Tryz.laidOut (pars_ok (by kernel_rfl)) rfl (by kernel_rfl) rfl hW' hb rfl⟩
theorem modelStands_holds :Rows.ModelStandsSaid:=
 OpenClaim.holds_of_wide 3 Tryz.f3 rfl rfl rfl rfl rfl rfl rfl ⟨rfl,rfl,rfl,rfl,rfl⟩ rfl rfl rfl rfl rfl (by kernel_rfl) Tryz.func3 (by kernel_rfl)
  (of_decide_eq_true (by kernel_rfl)) (by unfold Func.isWrapper;first|(rw[if_pos (by decide+kernel)];kernel_rfl)|(rw[if_neg (by decide+kernel)];exact⟨rfl,rfl⟩))
  (fun os started H enc _=>S9 os started H enc)
#print axioms modelStands_holds
end Go.Proofs.YtdeghcgakkhbmaaGreat
