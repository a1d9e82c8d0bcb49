/- For every series that comes in, whatever is in it, and every row of buckets: BucketRows returns true; the arguments read as before. No condition. -/
import Derived.Test.YtidfcoooccblaaaGreatRows
import Derived.ProofKit
import Derived.Deep.Slices
import Derived.OpenShut
import Derived.Test.YtidfcoooccblaaaGreatBro20
set_option maxRecDepth 100000
set_option maxHeartbeats 8000000
set_option linter.unusedSimpArgs false
set_option linter.unusedVariables false
namespace Go.Proofs.YtidfcoooccblaaaGreat
open Go.RowKit
attribute [local simp] Oper.looksAt Op.operands Call.operands envOf Det GDet
def AnsSp (L:List AnsT) (n:Nat):Spec:=fun v w=>∃p j,v= .slice p n j/\AnsIn w p L
theorem AnsSp.closed (L:List AnsT) (n:Nat):Closed [] (AnsSp L n):=fun _ _ _ hr ⟨p,j,e,h⟩=>⟨p,j,e,h.rex hr rfl⟩
def SerSp (s:SerT):Spec:=fun v w=>∃pS capS pP capP,v= .agg #[.string s.name,s.eps,s.floor,s.last,s.scale,.slice pS s.segs.length capS,.slice pP s.opn.length capP]/\SerIn w s pS pP
theorem SerSp.closed (s:SerT):Closed [] (SerSp s):=fun _ _ _ hr ⟨p,j,p',j',e,h⟩=>⟨p,j,p',j',e,h.rex hr rfl⟩
theorem brows_w (nm:ByteArray) (ep fl la sc:Int) (ps po:Option Addr) (ns cs no co:Nat) (s:SerT) (k fr wd nn er:Int) (n:Nat) (L:List AnsT) (q q2:Bool) (w:World) (hcase:Hid ((q=false/\er=340/\n=0)∨(q=true/\q2=false/\er=2/\n=0)∨(q=true/\q2=true/\er=0)))
  (c1:∀W,Below w.heap.size w W->Cb 28 #[] W (.bool true))
  (c2:∀W,Below w.heap.size w W->Calls Tryz.prog 29 #[.agg #[.string nm,ep,fl,la,sc,.slice ps ns cs,.slice po no co]] W fun e w'=>∃pS capS pP capP,e= .returned (.agg #[.string s.name,s.eps,s.floor,s.last,s.scale,.slice pS s.segs.length capS,.slice pP s.opn.length capP])/\Below W.heap.size W w'/\SerIn w' s pS pP)
  (cB:∀W pS capS pP capP,SerIn W s pS pP->Calls Tryz.prog 38 #[.agg #[.string s.name,s.eps,s.floor,s.last,s.scale,.slice pS s.segs.length capS,.slice pP s.opn.length capP],k,fr,wd,nn] W fun e w'=>∃p j,e= .returned (.tuple #[.slice p n j,er])/\AnsIn w' p L/\Below W.heap.size W w')
  (cR:∀W pS capS pP capP,SerIn W s pS pP->Cb 30 #[.agg #[.string s.name,s.eps,s.floor,s.last,s.scale,.slice pS s.segs.length capS,.slice pP s.opn.length capP]] W (.bool q))
  (cA:∀W,Cb 39 #[k,fr,wd,nn] W (.bool q2))
  (cU:q=true->q2=true->∀W pS capS pP capP,SerIn W s pS pP->Calls Tryz.prog 41 #[.agg #[.string s.name,s.eps,s.floor,s.last,s.scale,.slice pS s.segs.length capS,.slice pP s.opn.length capP],k,fr,wd,nn] W fun e w'=>∃p j,e= .returned (.slice p n j)/\AnsIn w' p L/\Below W.heap.size W w')
  (cE:∀W p j p' j',AnsIn W p L->AnsIn W p' L->Cb 40 #[.slice p n j,.slice p' n j'] W (.bool true))
  (cS:∀W pS capS pP capP p2 c2' p3 c3',SerIn W s pS pP->SerIn W s p2 p3->Cb 37 #[.agg #[.string s.name,s.eps,s.floor,s.last,s.scale,.slice pS s.segs.length capS,.slice pP s.opn.length capP],.agg #[.string s.name,s.eps,s.floor,s.last,s.scale,.slice p2 s.segs.length c2',.slice p3 s.opn.length c3']] W (.bool true)):
  Cb 7 #[.agg #[.string nm,ep,fl,la,sc,.slice ps ns cs,.slice po no co],.agg #[k,fr,wd,nn]] w (.bool true):=by
 have H_c1:=Hd c1
 clear c1
 have H_cB:=Hd cB
 clear cB
 have H_cR:=Hd cR
 clear cR
 have H_cA:=Hd cA
 clear cA
 go_enter Tryz.func7,Tryz.ntmps7
 replace c2:=Hd c2
 replace cU:=Hd cU
 replace cE:=Hd cE
 replace cS:=Hd cS
 go_wp2_with fail
 refine(H_c1.out _ belowAny).mono ?_
 rintro e w1 ⟨rfl,hb1⟩
 have z2:=hb1.size
 try simp at z2
 refine haveB w w1 (Bc w.heap.size #[.string nm,ep,fl,la,sc,.slice ps ns cs,.slice po no co] 25<|Bc (w.heap.size+1) #[k,fr,wd,nn] 79<|Bz) ?_
 rintro hW z3 ⟨⟨b1,yb1,k1,f1⟩,⟨b2,yb2,k2,f2⟩,-⟩
 clear hb1
 go_wp2_with fail
 refine(c2.out _ belowAny).mono ?_
 rintro e w4 ⟨pS,capS,pP,capP,rfl,hb4,hs⟩
 have z5:=hb4.size
 try simp at z5
 clear k1 f1 k2 f2
 refine haveB w w4 (Bc w.heap.size #[.string nm,ep,fl,la,sc,.slice ps ns cs,.slice po no co] 25<|Bc (w.heap.size+1) #[k,fr,wd,nn] 79<|Bz) ?_
 clear b1 b2 hW
 rintro hW z6 ⟨⟨b1,yb1,k1,f1⟩,⟨b2,yb2,k2,f2⟩,-⟩
 have b3:=hs
 clear hs
 go_wp2_with fail
 refine(H_cB.out _ pS capS pP capP (SerIn.alloc b3 _)).mono ?_
 rintro e w7 ⟨pl,jl,rfl,hL,hb7⟩
 have z8:=hb7.size
 try simp at z8
 clear k1 f1 k2 f2
 refine haveB w w7 (Bc w.heap.size #[.string nm,ep,fl,la,sc,.slice ps ns cs,.slice po no co] 25<|Bc (w.heap.size+1) #[k,fr,wd,nn] 79<|Rc (fun W'=>SerIn W' s pS pP)<|Bc w4.heap.size #[.string s.name,s.eps,s.floor,s.last,s.scale,.slice pS s.segs.length capS,.slice pP s.opn.length capP] 25<|Bz) ?_ (hR:=(Bc.mk (by exact blkAny2)<|Bc.mk (by exact blkAny2)<|Rc.mk (by first|exact b3|exact(SerIn.alloc b3 _).below (by assumption)|exact b3.below (by assumption)|exact b3.below belowAny)<|Bc.mk (by exact blkAny2)<|trivial))
 clear b1 b2 b3 hW
 rintro hW z9 ⟨⟨b1,yb1,k1,f1⟩,⟨b2,yb2,k2,f2⟩,b3,⟨b4,yb4,k4,f4⟩,-⟩
 have b5:=hL
 clear hL
 go_wp2_with fail
 refine(H_cR.out _ pS capS pP capP b3).mono ?_
 rintro e w10 ⟨rfl,hb10⟩
 have z11:=hb10.size
 try simp at z11
 clear k1 f1 k2 f2 k4 f4
 refine haveB w w10 (Bc w.heap.size #[.string nm,ep,fl,la,sc,.slice ps ns cs,.slice po no co] 25<|Bc (w.heap.size+1) #[k,fr,wd,nn] 79<|Rc (fun W'=>SerIn W' s pS pP)<|Bc w4.heap.size #[.string s.name,s.eps,s.floor,s.last,s.scale,.slice pS s.segs.length capS,.slice pP s.opn.length capP] 25<|Rc (fun W'=>AnsIn W' pl L)<|Bz) ?_ (hR:=(Bc.mk (by exact blkAny2)<|Bc.mk (by exact blkAny2)<|Rc.mk (by first|exact b3|exact(SerIn.alloc b3 _).below (by assumption)|exact b3.below (by assumption)|exact b3.below belowAny)<|Bc.mk (by exact blkAny2)<|Rc.mk (by first|exact b5|exact b5.below (by assumption)|exact b5.below belowAny)<|trivial))
 clear b1 b2 b3 b4 b5 hW
 rintro hW z12 ⟨⟨b1,yb1,k1,f1⟩,⟨b2,yb2,k2,f2⟩,b3,⟨b4,yb4,k4,f4⟩,b5,-⟩
 clear hb10
 rcases hcase.out with⟨rfl,rfl,rfl⟩|⟨rfl,rfl,rfl,rfl⟩|⟨rfl,rfl,rfl⟩
 ·
  go_wp2
  refine bodyPost_ret (by simp[results,Tryz.results7,go_sem,k1,f1,k2,f2,k4,f4,yb1,yb2,yb4]) rfl ⟨rfl,by exact belowAny⟩
 ·
  go_wp2_with fail
  refine(H_cA.out _).mono ?_
  rintro e w13 ⟨rfl,hb13⟩
  have z14:=hb13.size
  try simp at z14
  clear k1 f1 k2 f2 k4 f4
  refine haveB w w13 (Bc w.heap.size #[.string nm,ep,fl,la,sc,.slice ps ns cs,.slice po no co] 25<|Bc (w.heap.size+1) #[k,fr,wd,nn] 79<|Rc (fun W'=>SerIn W' s pS pP)<|Bc w4.heap.size #[.string s.name,s.eps,s.floor,s.last,s.scale,.slice pS s.segs.length capS,.slice pP s.opn.length capP] 25<|Rc (fun W'=>AnsIn W' pl L)<|Bz) ?_ (hR:=(Bc.mk (by exact blkAny2)<|Bc.mk (by exact blkAny2)<|Rc.mk (by first|exact b3|exact(SerIn.alloc b3 _).below (by assumption)|exact b3.below (by assumption)|exact b3.below belowAny)<|Bc.mk (by exact blkAny2)<|Rc.mk (by first|exact b5|exact b5.below (by assumption)|exact b5.below belowAny)<|trivial))
  clear b1 b2 b3 b4 b5 hW
  rintro hW z15 ⟨⟨b1,yb1,k1,f1⟩,⟨b2,yb2,k2,f2⟩,b3,⟨b4,yb4,k4,f4⟩,b5,-⟩
  clear hb13
  go_wp2
  refine bodyPost_ret (by simp[results,Tryz.results7,go_sem,k1,f1,k2,f2,k4,f4,yb1,yb2,yb4]) rfl ⟨rfl,by exact belowAny⟩
 ·
  go_wp2_with fail
  refine(H_cA.out _).mono ?_
  rintro e w13 ⟨rfl,hb13⟩
  have z14:=hb13.size
  try simp at z14
  clear k1 f1 k2 f2 k4 f4
  refine haveB w w13 (Bc w.heap.size #[.string nm,ep,fl,la,sc,.slice ps ns cs,.slice po no co] 25<|Bc (w.heap.size+1) #[k,fr,wd,nn] 79<|Rc (fun W'=>SerIn W' s pS pP)<|Bc w4.heap.size #[.string s.name,s.eps,s.floor,s.last,s.scale,.slice pS s.segs.length capS,.slice pP s.opn.length capP] 25<|Rc (fun W'=>AnsIn W' pl L)<|Bz) ?_ (hR:=(Bc.mk (by exact blkAny2)<|Bc.mk (by exact blkAny2)<|Rc.mk (by first|exact b3|exact(SerIn.alloc b3 _).below (by assumption)|exact b3.below (by assumption)|exact b3.below belowAny)<|Bc.mk (by exact blkAny2)<|Rc.mk (by first|exact b5|exact b5.below (by assumption)|exact b5.below belowAny)<|trivial))
  clear b1 b2 b3 b4 b5 hW
  rintro hW z15 ⟨⟨b1,yb1,k1,f1⟩,⟨b2,yb2,k2,f2⟩,b3,⟨b4,yb4,k4,f4⟩,b5,-⟩
  clear hb13
  go_upto_region 9 with(fail)
  clear k1 f1 k2 f2 k4 f4
  refine wp_cutB w (Bc w.heap.size #[.string nm,ep,fl,la,sc,.slice ps ns cs,.slice po no co] 25<|Bc (w.heap.size+1) #[k,fr,wd,nn] 79<|Rc (fun W'=>SerIn W' s pS pP)<|Bc w4.heap.size #[.string s.name,s.eps,s.floor,s.last,s.scale,.slice pS s.segs.length capS,.slice pP s.opn.length capP] 25<|Rc (fun W'=>AnsIn W' pl L)<|Bz) ?_ (hI:=by exact belowAny) (hR:=(Bc.mk (by exact blkAny2)<|Bc.mk (by exact blkAny2)<|Rc.mk (by first|exact b3|exact(SerIn.alloc b3 _).below (by assumption)|exact b3.below (by assumption)|exact b3.below belowAny)<|Bc.mk (by exact blkAny2)<|Rc.mk (by first|exact b5|exact b5.below (by assumption)|exact b5.below belowAny)<|trivial))
  clear b1 b2 b3 b4 b5 hW
  rintro W16 hW z17 hL
  obtain⟨⟨b1,yb1,k1,f1⟩,⟨b2,yb2,k2,f2⟩,b3,⟨b4,yb4,k4,f4⟩,b5,-⟩:=id hL
  clear k1 f1 k2 f2 k4 f4
  refine wp_regD 23 76 hW hL ?_
  iterate 3 refine dA ?_
  iterate 10 refine gA ?_
  apply nd_oncall (AnsSp L n) (hg:=rfl) (hd:=rfl) (hal:=rfl)
  ·exact AnsSp.closed _ _
  ·intro v W' h
   simp at h
   exact h
  ·intro a' W' hC hE
   obtain⟨_,⟨-,-,k1,-⟩,⟨-,-,k2,-⟩,k3,⟨-,-,k4,-⟩,k5,-⟩:=hC
   simp[Oper.looksAt,Op.operands,Call.operands,envOf,Det,GDet] at hE
   refine⟨_,_,?_,(cU.out (by trivial) (by trivial) W' pS capS pP capP k3).mono ?_⟩
   ·simp[go_sem,Act.eval,hE]
    try rfl
   ·rintro e w' ⟨p,j,rfl,hA,hB⟩
    exact⟨_,rfl,hB,p,j,rfl,hA⟩
  apply nd_oncall (Det (.bool true)) (hg:=rfl) (hd:=rfl) (hal:=rfl)
  ·exact closed_det _ _
  ·intro v W' h
   simp at h
   exact h
  ·intro a' W' hC hE
   obtain⟨_,⟨-,-,k1,-⟩,⟨-,-,k2,-⟩,k3,⟨-,-,k4,-⟩,k5,-⟩:=hC
   simp[Oper.looksAt,Op.operands,Call.operands,envOf,Det,GDet] at hE
   obtain⟨p9,c9,e9,h9⟩:=hE.2.1
   refine⟨_,_,?_,(cE.out W' pl jl p9 c9 k5 h9).mono ?_⟩
   ·simp[go_sem,Act.eval,hE.1,hE.2.2,e9]
    try rfl
   ·rintro e w' ⟨rfl,hB⟩
    exact⟨_,rfl,hB,rfl⟩
  refine pA ?_
  refine dA ?_
  iterate 2 refine gA ?_
  apply nd_oncall (SerSp s) (hg:=rfl) (hd:=rfl) (hal:=rfl)
  ·exact SerSp.closed _
  ·intro v W' h
   simp at h
   exact h
  ·intro a' W' hC hE
   have h9:=(hW.trans (hC.1.of_priv hW.size))
   obtain⟨_,⟨-,-,k1,-⟩,⟨-,-,k2,-⟩,k3,⟨-,-,k4,-⟩,k5,-⟩:=hC
   simp[Oper.looksAt,Op.operands,Call.operands,envOf,Det,GDet] at hE
   refine⟨_,_,?_,(c2.out W' h9).mono ?_⟩
   ·simp[go_sem,Act.eval,hE]
    try rfl
   ·rintro e w' ⟨p,j,p',j',rfl,hB,hA⟩
    exact⟨_,rfl,hB,p,j,p',j',rfl,hA⟩
  apply nd_oncall (Det (.bool true)) (hg:=rfl) (hd:=rfl) (hal:=rfl)
  ·exact closed_det _ _
  ·intro v W' h
   simp at h
   exact h
  ·intro a' W' hC hE
   obtain⟨_,⟨-,-,k1,-⟩,⟨-,-,k2,-⟩,k3,⟨-,-,k4,-⟩,k5,-⟩:=hC
   simp[Oper.looksAt,Op.operands,Call.operands,envOf,Det,GDet] at hE
   obtain⟨p2,c2',p3,c3',e9,h9⟩:=hE.2.1
   refine⟨_,_,?_,(cS.out W' pS capS pP capP p2 c2' p3 c3' k3 h9).mono ?_⟩
   ·simp[go_sem,Act.eval,hE.1,hE.2.2,e9]
    try rfl
   ·rintro e w' ⟨rfl,hB⟩
    exact⟨_,rfl,hB,rfl⟩
  refine pA ?_
  refine dA ?_
  clear hW hL b1 b2 b3 b4 b5
  rintro W18 hW z19 hL
  simp only[ndR]
  intros
  repeat (rename GDet _ _ _ _=>hgd;clear hgd)
  simp only[ndS]
  refine wpList_nil ?_
  obtain⟨⟨b1,yb1,k1,f1⟩,⟨b2,yb2,k2,f2⟩,b3,⟨b4,yb4,k4,f4⟩,b5,-⟩:=hL
  go_wp2
  refine bodyPost_ret (by simp[results,Tryz.results7,go_sem,k1,f1,k2,f2,k4,f4,yb1,yb2,yb4]) rfl ⟨rfl,by exact belowAny⟩
end Go.Proofs.YtidfcoooccblaaaGreat
namespace Go.Proofs.YtidfcoooccblaaaGreat
open Go.ChangeShapes Go.WideShapes Go.ChangeAt Go.RowKit Go.Deep
section
variable {H:Type} {enc:TypeId×Value->H} {P:Program}
theorem trodAll_stays (hl:laidOutB P=true) {W W':World} (hb:Below W.heap.size W W') {sp:Nat->Bool}:∀(ts:List TypeId) (vs:List Value) (ds:List (DataW H)) (ps:List MemPlace),(∀t,t∈ts->P.readableRec t=true/\t<P.types.size)->
  DataW.TrodAll enc P W 0 (fun _=>true) true ts vs ds ps->(∀p∈ps,p.block<W.heap.size)->(∀p∈ps,sp p.block=true)->DataW.TrodAll enc P W' 0 sp true ts vs ds ps
 | [],vs,ds,ps,_,h,_,_=>by
  obtain⟨rfl,rfl,rfl⟩:=trodAll_nil h
  rfl
 |t::ts,vs,ds,ps,hr,h,hlt,hs=>by
  obtain⟨v,vs',d,ds',p,q,rfl,rfl,rfl,h1,h2⟩:=trodAll_cons h
  exact⟨p,q,WideElems.Trod_stays hl (hr t (by simp)).1 (hr t (by simp)).2 h1 (fun x hx=>hb.same (hlt x (by simp[hx]))) (fun x hx=>hs x (by simp[hx])),
   trodAll_stays hl hb ts vs' ds' q (fun u hu=>hr u (by simp[hu])) h2 (fun x hx=>hlt x (by simp[hx])) (fun x hx=>hs x (by simp[hx])),rfl⟩
theorem law_post {f:Func} {s:ChangeSpec} {apart fresh handsOn again:Bool} {W W':World} {args:Array Value} {ds:List (DataW H)} {before:List MemPlace} {tb:TypeId} (hl:laidOutB P=true)
  (hpar:∀t,t∈f.params.toList->P.readableRec t=true/\t<P.types.size) (hres:f.resultTypes= #[tb]) (htb:P.underlying tb=some .bool) (hv:s.vars= [])
  (hW:DataW.Whole enc P f.params.toList s.vars apart W args.toList ds [] before) (hb:Below W.heap.size W W') (hfn:s.fn H ds= {results:= [.lit (.bool true)],args:=ds}):
  s.post enc P f apart fresh handsOn again W args (.bool true) W':=by
 have hlt:∀p∈before,p.block<W.heap.size:=fun p hp=>hW.lt p hp
 have hold:∀p∈before,(fun b=>decide (b<W.heap.size)) p.block=true:=fun p hp=>by simpa using hlt p hp
 have hW':=hW
 obtain⟨p,q,hA,hV,rfl,hz,hn⟩:=hW
 rw[hv] at hV
 obtain⟨_,rfl⟩:=trodVars_none hV
 have hR:∀(b:Nat) (sp:Nat->Bool) (hd:Bool),DataW.TrodAll enc P W' b sp hd f.resultTypes.toList ((Value.bool true).resultList f.resultTypes.size) (s.fn H (ds++ [])).results []:=fun b sp hd=>by
  rw[hres,List.append_nil,hfn]
  exact trodAll_mk1 (shut_bool htb _)
 have hargs:∀sp:Nat->Bool,(∀x∈p++ [],sp x.block=true)->DataW.TrodAll enc P W' 0 sp true f.params.toList args.toList (s.fn H (ds++ [])).args p:=fun sp hsp=>by
  rw[List.append_nil,hfn]
  exact trodAll_stays hl hb _ _ _ _ hpar hA (fun x hx=>hlt x (by simp[hx])) (fun x hx=>hsp x (by simp[hx]))
 have hvars:∀sp:Nat->Bool,(∀x∈p++ [],sp x.block=true)->DataW.TrodVars enc P W' sp s.vars (s.fn H (ds++ [])).vars []:=fun sp _=>by
  rw[hv,List.append_nil,hfn]
  rfl
 refine⟨ds,[],p++ [],[],p,[],hW',hR _ _ _,hargs _ hold,hvars _ hold,World.keptBut_mono (fun x hx=>⟨hx,?_⟩) (hb.frame (·∈p++ [])),fun _=> ?_⟩
 ·exact Or.inr (by simpa using hx)
 ·refine⟨?_,_,_,([]++p)++ [],⟨[]++p,[],trodAll_append (hargs _ (fun _ _=>rfl)) (hR _ _ _),hvars _ (fun _ _=>rfl),rfl,?_,?_⟩,?_⟩
  ·exact ok_one hres rfl (okWide_bool_mk htb _)
  ·intro b off hx
   have hin:MemPlace.cell b off∈p++ []:=by simpa using hx
   rw[hb.frozen (hlt _ hin)]
   exact hz b off hin
  ·intro ha
   simpa using hn ha
  ·intro x hx _
   simpa using hx
end
def fieldsOf (P:Program) (t:TypeId):Array (TypeId×Nat):=match P.underlying t with|some (.struct fs)=>fs.map fun f=>(f.type,f.offset)|_=> #[]
section
variable {H:Type} {enc:TypeId×Value->H} {P:Program} {w:World} {base:Nat} {spare:Nat->Bool} {held:Bool}
theorem open_struct {t:TypeId} {fl:Array (TypeId×Nat)} {fuel:Nat} {cs:List Value} {x:DataW H×List MemPlace} (hf:fieldsOf P t=fl) (hne:fl.size≠0) (h:DataW.trod enc P w base spare held fuel t cs=some x):
  cs.length=P.cellsOf t/\∀(i:Nat) (ty:TypeId) (off:Nat),fl[i]? =some (ty,off)->∃n y,DataW.trod enc P w base spare held n ty ((cs.drop off).take (P.cellsOf ty))=some y:=by
 unfold fieldsOf at hf
 split at hf
 ·rename_i fs hu
  obtain⟨xs,n,_,_,hl,hxl,hat⟩:=DataW.trod_struct hu h
  refine⟨hl,fun i ty off hi=> ?_⟩
  subst hf
  simp only[Array.getElem?_map,Option.map_eq_some_iff,Prod.mk.injEq] at hi
  obtain⟨f,h1,h2,h3⟩:=hi
  have hh:=hat i f h1
  have hlt:i<xs.length:=by have:=(Array.getElem?_eq_some_iff.1 h1).1;omega
  rw[List.getElem?_eq_getElem hlt] at hh
  subst h2;subst h3
  exact⟨n,_,hh⟩
 ·subst hf;simp at hne
theorem struct_of {t:TypeId} {fl:Array (TypeId×Nat)} (hf:fieldsOf P t=fl) (hne:fl.size≠0):∃fs,P.underlying t=some (.struct fs):=by
 unfold fieldsOf at hf
 split at hf
 ·rename_i fs hu
  exact⟨fs,hu⟩
 ·subst hf;simp at hne
theorem open_ints_struct {t:TypeId} {fl:Array (TypeId×Nat)} {fuel:Nat} {cs:List Value} {x:DataW H×List MemPlace} (hf:fieldsOf P t=fl) (hne:fl.size≠0) (hn:P.cellsOf t=fl.size)
  (ha:∀i,i<fl.size->∃ty,fl[i]? =some (ty,i)/\P.underlying ty=some (.int .i64)/\P.cellsOf ty=1) (h:DataW.trod enc P w base spare held fuel t cs=some x):
  cs.length=fl.size/\∀i,i<fl.size->∃z:Int,cs[i]? =some (.int .i64 z)/\I64 z:=by
 obtain⟨hl,hat⟩:=open_struct hf hne h
 refine⟨by omega,fun i hi=> ?_⟩
 obtain⟨ty,h1,h2,h3⟩:=ha i hi
 obtain⟨n,y,hy⟩:=hat i ty i h1
 obtain⟨z,hz,_,hw⟩:=DataW.trod_int h2 hy
 refine⟨z,?_,?_⟩
 ·rw[h3] at hz
  have:((cs.drop i).take 1)[0]? =some (.int .i64 z):=by rw[hz];rfl
  simpa using this
 ·simp[Lit.wf,IntKind.min,IntKind.max,IntKind.signed,IntKind.bits] at hw
  exact⟨by omega,by omega⟩
theorem list_of {α:Type} {Q:Nat->α->Prop}:∀n,(∀i,i<n->∃x,Q i x)->∃l:List α,l.length=n/\∀i x,l[i]? =some x->Q i x
 |0,_=>⟨[],rfl,fun i x h=>by simp at h⟩
 |n+1,h=>by
  obtain⟨l,hl,hq⟩:=list_of n fun i hi=>h i (by omega)
  obtain⟨x,hx⟩:=h n (by omega)
  refine⟨l++ [x],by simp[hl],fun i y hy=> ?_⟩
  rcases Nat.lt_or_ge i l.length with hlt|hge
  ·rw[List.getElem?_append_left hlt] at hy
   exact hq i y hy
  ·rw[List.getElem?_append_right hge] at hy
   have:i=l.length:=by
    rcases Nat.eq_or_lt_of_le hge with e|e
    ·exact e.symm
    ·rw[List.getElem?_eq_none (by simp;omega)] at hy;cases hy
   subst this
   simp at hy
   rw[hl,<-hy]
   exact hx
theorem spot_none {a:Addr} {v:Value} (h:w.cell? a=some v):a=⟨a.block,a.off,none⟩:=by
 obtain⟨b,o,s⟩:=a
 cases s with
 |none=>rfl
 |some k=>
  unfold World.cell? at h
  simp at h
  split at h<;>cases h
theorem add_at {b o n:Nat}:(⟨b,o,none⟩:Addr).add n=⟨b,o+n,none⟩:=by unfold Addr.add;split<;>simp_all
theorem open_rows {t e:TypeId} {n fuel:Nat} {fl:Array (TypeId×Nat)} {cs:List Value} {x:DataW H×List MemPlace} (ht:P.underlying t=some (.slice e)) (hf:fieldsOf P e=fl) (hfl:fl.size=n) (hn0:n≠0) (hn:P.cellsOf e=n)
  (ha:∀i,i<fl.size->∃ty,fl[i]? =some (ty,i)/\P.underlying ty=some (.int .i64)/\P.cellsOf ty=1) (h:DataW.trod enc P w base spare held fuel t cs=some x):
  ∃(p:Option Addr) (len cap:Nat),cs= [.slice p len cap]/\(p=none->len=0/\cap=0)/\len<=cap/\cap<=maxLen/\
   ∀i,i<len->∃b o,p=some ⟨b,o,none⟩/\∀j,j<n->∃z:Int,w.cell? ⟨b,o+i*n+j,none⟩=some (.int .i64 z)/\I64 z:=by
 rcases open_slice ht h with⟨rfl,rfl⟩|⟨a,len,cap,m,k,D,Pl,rfl,hb,hl,hm,hmm,hx,hi⟩
 ·exact⟨none,0,0,rfl,fun _=>⟨rfl,rfl⟩,Nat.le_refl _,Nat.zero_le _,fun i hi=>by omega⟩
 ·refine⟨some a,len,cap,rfl,(fun e=>by cases e),hl,hm,fun i hilt=> ?_⟩
  have hlm:len<=m:=by rw[hmm];split<;>omega
  have key:∀i,i<len->∀j,j<n->∃z:Int,w.cell? (a.add (i*n+j))=some (.int .i64 z)/\I64 z:=by
   intro i hilt j hj
   obtain⟨cs',hc,ht'⟩:=hi i (by omega)
   obtain⟨_,hcl,hat⟩:=World.cells?_some hc
   obtain⟨hl',hz⟩:=open_ints_struct hf (by omega) (by omega) ha ht'
   obtain⟨z,hz1,hz2⟩:=hz j (by omega)
   have:=hat j (by omega)
   rw[add_add,hn,hz1] at this
   exact⟨z,this,hz2⟩
  obtain⟨z0,hz0,_⟩:=key 0 (by omega) 0 (by omega)
  simp[Addr.add] at hz0
  have hs:=spot_none hz0
  refine⟨a.block,a.off,by rw[<-hs],fun j hj=> ?_⟩
  obtain⟨z,h1,h2⟩:=key i hilt j hj
  rw[hs,add_at] at h1
  exact⟨z,by rw[Nat.add_assoc];exact h1,h2⟩
theorem open_nums {t e:TypeId} {fuel:Nat} {cs:List Value} {x:DataW H×List MemPlace} (ht:P.underlying t=some (.slice e)) (he:P.underlying e=some (.int .i64)) (hc:P.cellsOf e=1) (h:DataW.trod enc P w base spare held fuel t cs=some x):
  ∃(p:Option Addr) (l:List Int) (cap:Nat),cs= [.slice p l.length cap]/\(p=none->l= []/\cap=0)/\l.length<=cap/\cap<=maxLen/\IntsIn w p l/\∀z,z∈l->I64 z:=by
 rcases open_ints ht he hc h with⟨rfl,_⟩|⟨a,len,cap,zs,rfl,hb,hl,hm,hzl,_,hz,hw⟩
 ·exact⟨none,[],0,rfl,fun _=>⟨rfl,rfl⟩,Nat.le_refl _,Nat.zero_le _,⟨fun i x h=>by simp at h⟩,fun z h=>by simp at h⟩
 ·have hle:len<=zs.length:=by rw[hzl];split<;>omega
  refine⟨some a,zs.take len,cap,by simp[hle],(fun e=>by cases e),by simp;omega,hm,⟨fun i x hx=> ?_⟩,fun z hz'=> ?_⟩
  ·rw[List.getElem?_take] at hx
   split at hx
   ·rename_i hil
    have h0:=hz 0 (by omega)
    simp[Addr.add] at h0
    have hs:=spot_none h0
    have hi:=hz i (by omega)
    rw[hs,add_at] at hi
    refine⟨a.block,a.off,by rw[<-hs],?_⟩
    rw[hi,List.getD_eq_getElem?_getD,hx]
    rfl
   ·cases hx
  ·have:=hw z (List.mem_of_mem_take hz')
   simp[Lit.wf,IntKind.min,IntKind.max,IntKind.signed,IntKind.bits] at this
   exact⟨by omega,by omega⟩
end
section
variable {H:Type} {enc:TypeId×Value->H} {w:World} {base:Nat} {spare:Nat->Bool} {held:Bool}
theorem Tryz.fieldsRun :fieldsOf Tryz.prog 144= #[(2,0),(2,1),(3,2)]:=by kernel_rfl
theorem Tryz.fieldsLine :fieldsOf Tryz.prog 95= #[(2,0),(2,1),(2,2),(2,3)]:=by kernel_rfl
theorem Tryz.fieldsSeg :fieldsOf Tryz.prog 98= #[(3,0),(93,1),(95,2),(96,6),(2,7)]:=by kernel_rfl
theorem Tryz.isInt :Tryz.prog.underlying 3=some (.int .i64)/\Tryz.prog.cellsOf 3=1:=⟨by kernel_rfl,by kernel_rfl⟩
theorem Tryz.isInt64 :Tryz.prog.underlying 2=some (.int .i64)/\Tryz.prog.cellsOf 2=1:=⟨by kernel_rfl,by kernel_rfl⟩
theorem open_run_list {fuel:Nat} {cs:List Value} {x:DataW H×List MemPlace} (h:DataW.trod enc Tryz.prog w base spare held fuel 93 cs=some x):
  ∃(p:Option Addr) (l:List RunT) (cap:Nat),cs= [.slice p l.length cap]/\(p=none->l= []/\cap=0)/\l.length<=cap/\cap<=maxLen/\RunsIn w p l/\∀r,r∈l->I64 r.f/\I64 r.s/\I64 r.c:=by
 obtain⟨p,len,cap,rfl,hn,hl,hm,hi⟩:=open_rows (n:=3) (by kernel_rfl) Tryz.fieldsRun rfl (by omega) (by kernel_rfl) (fun i hi=>by
  match i,hi with
  |0,_=>exact⟨_,rfl,Tryz.isInt64⟩
  |1,_=>exact⟨_,rfl,Tryz.isInt64⟩
  |2,_=>exact⟨_,rfl,Tryz.isInt⟩) h
 obtain⟨l,rfl,hq⟩:=list_of (Q:=fun i (r:RunT)=>(∃b o,p=some ⟨b,o,none⟩/\w.cell? ⟨b,o+i*3,none⟩=some (.int .i64 r.f)/\w.cell? ⟨b,o+i*3+1,none⟩=some (.int .i64 r.s)/\w.cell? ⟨b,o+i*3+2,none⟩=some (.int .i64 r.c))/\I64 r.f/\I64 r.s/\I64 r.c) len (fun i hilt=>by
  obtain⟨b,o,e,hj⟩:=hi i hilt
  obtain⟨f,f1,f2⟩:=hj 0 (by omega)
  obtain⟨s,s1,s2⟩:=hj 1 (by omega)
  obtain⟨c,c1,c2⟩:=hj 2 (by omega)
  exact⟨⟨f,s,c⟩,⟨b,o,e,by simpa using f1,s1,c1⟩,f2,s2,c2⟩)
 refine⟨p,l,cap,rfl,fun e=>⟨List.length_eq_zero_iff.1 (hn e).1,(hn e).2⟩,hl,hm,⟨fun i r hr=>(hq i r hr).1⟩,fun r hr=> ?_⟩
 obtain⟨i,hi⟩:=List.getElem?_of_mem hr
 exact(hq i r hi).2
end
theorem pars_ok {P:Program} {ts:List TypeId} (h:(ts.all fun t=>P.readableRec t&&decide (t<P.types.size))=true):∀t,t∈ts->P.readableRec t=true/\t<P.types.size:=fun t ht=>by
 have:=List.all_eq_true.1 h t ht
 simpa using this
theorem Tryz.ownKnob :ownKnob Tryz.prog.godebug=none:=by kernel_rfl
theorem Tryz.laidOut :laidOutB Tryz.prog=true:=by kernel_rfl
section
variable {H:Type} {enc:TypeId×Value->H} {w:World} {base:Nat} {spare:Nat->Bool} {held:Bool}
theorem Tryz.fieldsSer :fieldsOf Tryz.prog 25= #[(9,0),(2,1),(2,2),(2,3),(3,4),(22,5),(23,6)]:=by kernel_rfl
theorem Tryz.fieldsPoint :fieldsOf Tryz.prog 91= #[(2,0),(2,1)]:=by kernel_rfl
theorem open_seg_trod {fuel:Nat} {cs:List Value} {x:DataW H×List MemPlace} (hf:DataW.trod enc Tryz.prog w base spare held fuel 98 cs=some x):
  ∃r:SegR,cs=(segRA r).toList/\Came w r.s r.p r.q r.cap r.vc:=by
 have hC:Tryz.prog.cellsOf 98=8:=by kernel_rfl
 have hR:Tryz.prog.cellsOf 93=1:=by kernel_rfl
 have hV:Tryz.prog.cellsOf 96=1:=by kernel_rfl
 have hL:Tryz.prog.cellsOf 95=4:=by kernel_rfl
 obtain⟨hsz,hat⟩:=open_struct Tryz.fieldsSeg (by simp) hf
 rw[hC] at hsz
 match cs,hsz with
 | [c0,c1,c2,c3,c4,c5,c6,c7],_=>
  obtain⟨n0,y0,h0⟩:=hat 0 _ _ rfl
  obtain⟨n1,y1,h1⟩:=hat 1 _ _ rfl
  obtain⟨n2,y2,h2⟩:=hat 2 _ _ rfl
  obtain⟨n3,y3,h3⟩:=hat 3 _ _ rfl
  obtain⟨n4,y4,h4⟩:=hat 4 _ _ rfl
  rw[Tryz.isInt.2] at h0
  rw[hR] at h1
  rw[hL] at h2
  rw[hV] at h3
  rw[Tryz.isInt64.2] at h4
  obtain⟨K,eK,_,wK⟩:=DataW.trod_int Tryz.isInt.1 h0
  obtain⟨p,l,cap,e1,r1,r2,r3,r4,r5⟩:=open_run_list h1
  obtain⟨_,hln⟩:=open_ints_struct Tryz.fieldsLine (by simp) (by rw[hL];rfl) (fun i hi=>by
   match i,hi with
   |0,_=>exact⟨_,rfl,Tryz.isInt64⟩
   |1,_=>exact⟨_,rfl,Tryz.isInt64⟩
   |2,_=>exact⟨_,rfl,Tryz.isInt64⟩
   |3,_=>exact⟨_,rfl,Tryz.isInt64⟩) h2
  obtain⟨A,a1,a2⟩:=hln 0 (by simp)
  obtain⟨R,b1,b2⟩:=hln 1 (by simp)
  obtain⟨N,g1,g2⟩:=hln 2 (by simp)
  obtain⟨D,d1,d2⟩:=hln 3 (by simp)
  obtain⟨q,v,vc,e3,q1,q2,q3,q4,q5⟩:=open_nums (by kernel_rfl) Tryz.isInt64.1 Tryz.isInt64.2 h3
  obtain⟨E,eE,_,wE⟩:=DataW.trod_int Tryz.isInt64.1 h4
  simp at eK e1 a1 b1 g1 d1 e3 eE
  subst eK;subst e1;subst a1;subst b1;subst g1;subst d1;subst e3;subst eE
  unfold maxLen at r3 q3
  exact⟨⟨⟨K,l,A,R,N,D,v,E⟩,p,q,cap,vc⟩,rfl,⟨r4,q4,r1,q1,r2,q2,by show l.length<=_;omega,by show v.length<=_;omega⟩⟩
theorem open_segs {fuel:Nat} {cs:List Value} {x:DataW H×List MemPlace} (h:DataW.trod enc Tryz.prog w base spare held fuel 22 cs=some x):
  ∃(p:Option Addr) (rows:List SegR) (cap:Nat),cs= [.slice p rows.length cap]/\(p=none->rows.length=0/\cap=0)/\rows.length<=cap/\SegsCame w p rows:=by
 have hC:Tryz.prog.cellsOf 98=8:=by kernel_rfl
 rcases open_slice (e:=98) (by kernel_rfl) h with⟨rfl,rfl⟩|⟨a,len,cap,m,k,D,Pl,rfl,hb,hl,hm,hmm,hx,hi⟩
 ·exact⟨none,[],0,rfl,fun _=>⟨rfl,rfl⟩,Nat.le_refl _,fun i r hr=>by simp at hr⟩
 ·have hlm:len<=m:=by rw[hmm];split<;>omega
  have hs:0<len->a=⟨a.block,a.off,none⟩:=fun h0=>by
   obtain⟨cs',hc,ht'⟩:=hi 0 (by omega)
   rw[hC] at hc
   obtain⟨_,hcl,hat⟩:=World.cells?_some hc
   have h1:=hat 0 (by omega)
   rw[List.getElem?_eq_getElem (by omega)] at h1
   simp[Addr.add] at h1
   exact spot_none h1
  obtain⟨rows,rfl,hq⟩:=list_of (Q:=fun i (r:SegR)=>(∃b o,a=⟨b,o,none⟩/\(∀j v,(segRA r)[j]? =some v->w.cell? ⟨b,o+i*8+j,none⟩=some v))/\Came w r.s r.p r.q r.cap r.vc) len (fun i hilt=>by
   obtain⟨cs',hc,ht'⟩:=hi i (by omega)
   rw[hC] at hc
   obtain⟨_,hcl,hat⟩:=World.cells?_some hc
   obtain⟨r,rfl,hcm⟩:=open_seg_trod ht'
   refine⟨r,⟨a.block,a.off,hs (by omega),fun j v hv=> ?_⟩,hcm⟩
   have hj:j<8:=by have:=(Array.getElem?_eq_some_iff.1 hv).1;rw[show (segRA r).size=8 from rfl] at this;exact this
   have h1:=hat j hj
   rw[add_add,hs (by omega),add_at,Array.getElem?_toList,hv] at h1
   rw[Nat.add_assoc]
   exact h1)
  exact⟨some a,rows,cap,rfl,(fun e=>by cases e),hl,fun i r hr=>by
   obtain⟨⟨b,o,e,h1⟩,h2⟩:=hq i r hr
   exact⟨b,o,by rw[e],h1,h2⟩⟩
theorem open_pts {fuel:Nat} {cs:List Value} {x:DataW H×List MemPlace} (h:DataW.trod enc Tryz.prog w base spare held fuel 23 cs=some x):
  ∃(p:Option Addr) (l:List (Int×Int)) (cap:Nat),cs= [.slice p l.length cap]/\(p=none->l.length=0/\cap=0)/\l.length<=cap/\PtsIn w p l:=by
 obtain⟨p,len,cap,rfl,hn,hl,hm,hi⟩:=open_rows (n:=2) (by kernel_rfl) Tryz.fieldsPoint rfl (by omega) (by kernel_rfl) (fun i hi=>by
  match i,hi with
  |0,_=>exact⟨_,rfl,Tryz.isInt64⟩
  |1,_=>exact⟨_,rfl,Tryz.isInt64⟩) h
 obtain⟨l,rfl,hq⟩:=list_of (Q:=fun i (r:Int×Int)=>∃b o,p=some ⟨b,o,none⟩/\w.cell? ⟨b,o+i*2,none⟩=some (.int .i64 r.1)/\w.cell? ⟨b,o+i*2+1,none⟩=some (.int .i64 r.2)) len (fun i hilt=>by
  obtain⟨b,o,e,hj⟩:=hi i hilt
  obtain⟨f,f1,f2⟩:=hj 0 (by omega)
  obtain⟨s,s1,s2⟩:=hj 1 (by omega)
  exact⟨(f,s),b,o,e,by simpa using f1,s1⟩)
 exact⟨p,l,cap,rfl,hn,hl,⟨fun i r hr=>hq i r hr⟩⟩
theorem open_ser {r:Reach} {b0:Nat} {v:Value} {d:DataW H} {ps:List MemPlace} (hv:Value.okWide Tryz.prog w r b0 25 v) (h:DataW.Trod enc Tryz.prog w base spare held 25 v d ps):
  ∃nm ep fl la sc p cs rows q co pts,v= .agg #[.string nm,.int .i64 ep,.int .i64 fl,.int .i64 la,.int .i64 sc,.slice p rows.length cs,.slice q pts.length co]/\SerCame w p q cs co rows pts:=by
 obtain⟨fs,hfs⟩:∃fs,Tryz.prog.underlying 25=some (.struct fs):=struct_of Tryz.fieldsSer (by simp)
 obtain⟨cs,rfl,hsz⟩:=okWide_struct hfs hv
 have hC:Tryz.prog.cellsOf 25=7:=by kernel_rfl
 have hR:Tryz.prog.cellsOf 22=1:=by kernel_rfl
 have hV:Tryz.prog.cellsOf 23=1:=by kernel_rfl
 have hS:Tryz.prog.cellsOf 9=1:=by kernel_rfl
 obtain⟨fuel,hf⟩:=h
 obtain⟨l⟩:=cs
 obtain⟨_,hat⟩:=open_struct Tryz.fieldsSer (by simp) hf
 rw[hC] at hsz
 match l,hsz with
 | [c0,c1,c2,c3,c4,c5,c6],_=>
  obtain⟨n0,y0,h0⟩:=hat 0 _ _ rfl
  obtain⟨n1,y1,h1⟩:=hat 1 _ _ rfl
  obtain⟨n2,y2,h2⟩:=hat 2 _ _ rfl
  obtain⟨n3,y3,h3⟩:=hat 3 _ _ rfl
  obtain⟨n4,y4,h4⟩:=hat 4 _ _ rfl
  obtain⟨n5,y5,h5⟩:=hat 5 _ _ rfl
  obtain⟨n6,y6,h6⟩:=hat 6 _ _ rfl
  rw[hS] at h0
  rw[Tryz.isInt64.2] at h1 h2 h3
  rw[Tryz.isInt.2] at h4
  rw[hR] at h5
  rw[hV] at h6
  obtain⟨nm,e0,_⟩:=DataW.trod_string (by kernel_rfl) h0
  obtain⟨ep,e1,_,_⟩:=DataW.trod_int Tryz.isInt64.1 h1
  obtain⟨fl,e2,_,_⟩:=DataW.trod_int Tryz.isInt64.1 h2
  obtain⟨la,e3,_,_⟩:=DataW.trod_int Tryz.isInt64.1 h3
  obtain⟨sc,e4,_,_⟩:=DataW.trod_int Tryz.isInt.1 h4
  obtain⟨p,rows,cs,e5,r1,r2,r3⟩:=open_segs h5
  obtain⟨q,pts,co,e6,s1,s2,s3⟩:=open_pts h6
  simp[Value.cells] at e0 e1 e2 e3 e4 e5 e6
  subst e0;subst e1;subst e2;subst e3;subst e4;subst e5;subst e6
  exact⟨nm,ep,fl,la,sc,p,cs,rows,q,co,pts,rfl,⟨r3,s3,r1,s1,r2,s2⟩⟩
end
section
variable {H:Type} {enc:TypeId×Value->H} {w:World} {base:Nat} {spare:Nat->Bool} {held:Bool}
theorem Tryz.fieldsRow :fieldsOf Tryz.prog 79= #[(3,0),(2,1),(2,2),(3,3)]:=by kernel_rfl
theorem open_row_arg {r:Reach} {b0:Nat} {v:Value} {d:DataW H} {ps:List MemPlace} (hv:Value.okWide Tryz.prog w r b0 79 v) (h:DataW.Trod enc Tryz.prog w base spare held 79 v d ps):
  ∃A R N D:Int,v= .agg #[A,R,N,D]:=by
 obtain⟨fs,hfs⟩:∃fs,Tryz.prog.underlying 79=some (.struct fs):=struct_of Tryz.fieldsRow (by simp)
 obtain⟨cs,rfl,hsz⟩:=okWide_struct hfs hv
 have hL:Tryz.prog.cellsOf 79=4:=by kernel_rfl
 obtain⟨fuel,hf⟩:=h
 obtain⟨l⟩:=cs
 obtain⟨_,hln⟩:=open_ints_struct Tryz.fieldsRow (by simp) (by rw[hL];rfl) (fun i hi=>by
  match i,hi with
  |0,_=>exact⟨_,rfl,Tryz.isInt⟩
  |1,_=>exact⟨_,rfl,Tryz.isInt64⟩
  |2,_=>exact⟨_,rfl,Tryz.isInt64⟩
  |3,_=>exact⟨_,rfl,Tryz.isInt⟩) hf
 rw[hL] at hsz
 match l,hsz with
 | [x0,x1,x2,x3],_=>
  obtain⟨A,a1,_⟩:=hln 0 (by simp)
  obtain⟨R,b1,_⟩:=hln 1 (by simp)
  obtain⟨N,g1,_⟩:=hln 2 (by simp)
  obtain⟨D,d1,_⟩:=hln 3 (by simp)
  simp[Value.cells] at a1 b1 g1 d1
  subst a1;subst b1;subst g1;subst d1
  exact⟨A,R,N,D,rfl⟩
end
theorem c_r26Right (s:SerT) (ps:Option Addr) (cs:Nat) (po:Option Addr) (co:Nat) (w:World) (hin:SerIn w s ps po) (hnm:s.name.size<=1000):
  Cb 30 #[.agg (serA s ps cs po co)] w (.bool (checkB s)):=by
 have c1:=fun W (hW:Below w.heap.size w W)=>c_r24Right s ps cs po co W (hin.below hW) hnm
 unfold serA at c1⊢
 have H_c1:=Hd c1
 clear c1
 go_enter Tryz.func30,Tryz.ntmps30
 go_wp2_with fail
 refine(H_c1.out _ belowAny).mono ?_
 rintro e w1 ⟨rfl,hb1⟩
 have z2:=hb1.size
 try simp at z2
 refine haveB w w1 (Bc w.heap.size #[.string s.name,s.eps,s.floor,s.last,s.scale,.slice ps s.segs.length cs,.slice po s.opn.length co] 25<|Bz) ?_
 rintro hW z3 ⟨⟨b1,yb1,k1,f1⟩,-⟩
 clear hb1
 go_wp2
 refine bodyPost_ret (by simp[results,Tryz.results30,go_sem,k1,f1,yb1]) rfl ⟨rfl,by exact belowAny⟩
theorem name_few (nm:ByteArray):(nm.extract 0 (mn (nm.size:Int) 20).toNat).size<=1000:=by
 have:=mn_spec (nm.size:Int) 20
 rw[ByteArray.size_extract]
 omega
theorem c_brows (nm:ByteArray) (ep fl la sc:Int) (ps po:Option Addr) (cs co:Nat) (rows:List SegR) (pts:List (Int×Int)) (qa qb qc qd:Int) (w:World) (h:SerCame w ps po cs co rows pts):
  Cb 7 #[.agg #[.string nm,ep,fl,la,sc,.slice ps rows.length cs,.slice po pts.length co],.agg #[qa,qb,qc,qd]] w (.bool true):=by
 have c1:=fun W (_:Below w.heap.size w W)=>c_wakes26 W
 have c2:=fun W (hW:Below w.heap.size w W)=>c_own26 nm ep fl la sc ps po cs co rows pts W (h.below hW)
 obtain⟨s,hs⟩:∃s,ownSer26 nm ep fl la sc rows pts=s:=⟨_,rfl⟩
 rw[hs] at c2
 have hnm:s.name.size<=1000:=by rw[<-hs];exact name_few nm
 clear hs
 have cB:=fun(W:World) (pS:Option Addr) (capS:Nat) (pP:Option Addr) (capP:Nat) (hW:SerIn W s pS pP)=>c_bkBuckets s pS pP capS capP qa qb qc qd W hW
 have cR:=fun(W:World) (pS:Option Addr) (capS:Nat) (pP:Option Addr) (capP:Nat) (hW:SerIn W s pS pP)=>c_r26Right s pS capS pP capP W hW hnm
 have cA:=fun W=>c_r26Asked qa qb qc qd W
 have hl9:(bkL s qa qb qc qd).length<=1000000:=by
  unfold bkL
  split
  ·rename_i hh
   rw[Bool.and_eq_true] at hh
   have:=of_decide_eq_true hh.2
   rw[bucketL_len]
   omega
  ·simp
 have cE:=fun W p j p' j' (h1:AnsIn W p (bkL s qa qb qc qd)) (h2:AnsIn W p' (bkL s qa qb qc qd))=>c_eqAns p j p' j' _ _ W hl9 h1 h2
 simp only[decide_true] at cE
 have cS:=fun(W:World) (pS:Option Addr) (capS:Nat) (pP:Option Addr) (capP:Nat) (p2:Option Addr) (c2':Nat) (p3:Option Addr) (c3':Nat) (h1:SerIn W s pS pP) (h2:SerIn W s p2 p3)=>c_r24Same s pS p2 capS c2' pP p3 capP c3' W h1 h2
 have cU:checkB s=true->askedB qa qb qc qd=true->∀(W:World) (pS:Option Addr) (capS:Nat) (pP:Option Addr) (capP:Nat) (hW:SerIn W s pS pP),Calls Tryz.prog 41 #[.agg (serA s pS capS pP capP),qa,qb,qc,qd] W fun e w'=>∃p j,e= .returned (.slice p (bkL s qa qb qc qd).length j)/\AnsIn w' p (bkL s qa qb qc qd)/\Below W.heap.size W w':=by
  intro hc hq W pS capS pP capP hW
  have hh:=of_decide_eq_true hq
  obtain⟨k,rfl⟩:∃k:Nat,qa=(k:Int):=⟨qa.toNat,by omega⟩
  obtain⟨N,rfl⟩:∃k:Nat,qd=(k:Int):=⟨qd.toNat,by omega⟩
  unfold bkL
  rw[hc,hq,Int.toNat_natCast,Int.toNat_natCast]
  simp only[Bool.and_self,if_true,bucketL_len]
  exact c_r26Buckets s pS capS pP capP k N qb qc W hW hc hq
 unfold AnsPost at cB
 unfold serA at c2 cB cR cU cS
 refine brows_w nm ep fl la sc ps po _ cs _ co s qa qb qc qd _ _ _ _ _ w (Hd ?_) c1 c2 cB cR cA cU cE cS
 unfold bkE bkL
 cases checkB s with
 |false=>exact .inl ⟨rfl,rfl,rfl⟩
 |true=>
  cases askedB qa qb qc qd with
  |false=>exact .inr (.inl ⟨rfl,rfl,rfl,rfl⟩)
  |true=>exact .inr (.inr ⟨rfl,rfl,rfl⟩)
theorem brows_lifted (os:Os) (started:os.Started) (H:Type) (enc:TypeId×Value->H):
  ReturnsInHanded {} Tryz.checked os 7 .any (Rows.bucketRowsSpec.pre6 enc Tryz.prog Tryz.f7 Rows.bucketRowsRow.domain false) (Rows.bucketRowsSpec.post enc Tryz.prog Tryz.f7 false true false false):=by
 refine returnsInHanded_of_change (C:=Tryz.checked) Tryz.ownKnob started (by kernel_rfl) Tryz.func7
  (ChangeSpec.witness6 (enc:=enc) (C:=Tryz.checked) false ⟨#[],#[.agg #[.string .empty,.int .i64 0,.int .i64 0,.int .i64 0,.int .i64 0,.slice none 0 0,.slice none 0 0],.agg #[.int .i64 0,.int .i64 0,.int .i64 0,.int .i64 0]],[]⟩ 8 (by kernel_rfl) (by kernel_rfl) (by kernel_rfl) (by kernel_rfl)) ?_
 intro W base args ds gs before hval0 hW hcnd _
 have hval:∀(j:Nat) t v,Tryz.f7.params[j]? =some t->args[j]? =some v->Value.okWide Tryz.prog W .any base t v:=hval0
 have hW':=hW
 obtain⟨p,q,hA0,hV,rfl,hfz,hnd⟩:=hW
 have hA:DataW.TrodAll enc Tryz.prog W 0 (fun _=>true) true Tryz.f7.params.toList args.toList ds p:=hA0
 rw[Tryz.params7] at hA hval
 obtain⟨v0,vs0,d0,ds0,p0,q0,hargs,rfl,rfl,h0,hA⟩:=trodAll_cons hA
 obtain⟨v1,vs1,d1,ds1,p1,q1,rfl,rfl,rfl,h1,hA⟩:=trodAll_cons hA
 obtain⟨rfl,rfl,rfl⟩:=trodAll_nil hA
 obtain rfl:args= #[v0,v1]:=by rw[<-Array.toList_inj,hargs]
 obtain⟨rfl,rfl⟩:=trodVars_none hV
 obtain⟨nm,ep,fl,la,sc,p',cs,rows,q',co,pts,rfl,hs⟩:=open_ser (hval 0 _ v0 rfl rfl) h0
 obtain⟨qa,qb,qc,qd,rfl⟩:=open_row_arg (hval 1 _ v1 rfl rfl) h1
 clear hA0 hval0
 refine(c_brows nm ep fl la sc p' q' cs co rows pts qa qb qc qd W hs).mono fun e W' ⟨he,hb⟩=> ?_
 subst he
 exact⟨_,rfl,law_post Tryz.laidOut (pars_ok (by kernel_rfl)) rfl (by kernel_rfl) rfl hW' hb rfl⟩
theorem bucketRows_holds :Rows.BucketRowsSaid:=
 OpenClaim.holds_of_wide 7 Tryz.f7 rfl rfl rfl rfl rfl rfl rfl ⟨rfl,rfl,rfl,rfl,rfl⟩ rfl rfl rfl rfl rfl (by kernel_rfl) Tryz.func7 (by kernel_rfl)
  (of_decide_eq_true (by kernel_rfl)) (by unfold Func.isWrapper;first|(rw[if_pos (by decide+kernel)];kernel_rfl)|(rw[if_neg (by decide+kernel)];exact⟨rfl,rfl⟩))
  (fun os started H enc _=>brows_lifted os started H enc)
end Go.Proofs.YtidfcoooccblaaaGreat
