/- Parts of the proof that follows. No condition. -/
import Derived.Test.YtidfcoooccblaaaGreatRows
import Derived.ProofKit
import Derived.Deep.Slices
import Derived.OpenShut
import Derived.Test.YtidfcoooccblaaaGreatBon20
set_option maxRecDepth 100000
set_option maxHeartbeats 8000000
set_option linter.unusedSimpArgs false
set_option linter.unusedVariables false
namespace Go.Proofs.YtidfcoooccblaaaGreat
open Go.RowKit
def AnsSp (L:List Ea) (n:Nat):Bo:=fun v w=>∃p j,v= .slice p n j/\Dg w p L
theorem AnsSp.closed (L:List Ea) (n:Nat):Bj [] (AnsSp L n):=fun _ _ _ hr ⟨p,j,e,h⟩=>⟨p,j,e,h.rex hr rfl⟩
def SerSp (s:Be):Bo:=fun v w=>∃pS capS pP capP,v= .agg #[.string s.name,s.eps,s.floor,s.last,s.scale,.slice pS s.segs.length capS,.slice pP s.opn.length capP]/\Av w s pS pP
theorem SerSp.closed (s:Be):Bj [] (SerSp s):=fun _ _ _ hr ⟨p,j,p',j',e,h⟩=>⟨p,j,p',j',e,h.rex hr rfl⟩
end Go.Proofs.YtidfcoooccblaaaGreat
namespace Go.Proofs.YtidfcoooccblaaaGreat
open Go.ChangeShapes Go.WideShapes Go.ChangeAt Go.RowKit Go.Deep
section
variable {H:Type} {enc:TypeId×Value->H} {P:Program}
theorem Mh (hl:laidOutB P=true) {W W':World} (hb:Below W.heap.size W W') {sp:Nat->Bool}:∀(ts:List TypeId) (vs:List Value) (ds:List (DataW H)) (ps:List MemPlace),(∀t,t∈ts->P.readableRec t=true/\t<P.types.size)->
  DataW.TrodAll enc P W 0 (fun _=>true) true ts vs ds ps->(∀p∈ps,p.block<W.heap.size)->(∀p∈ps,sp p.block=true)->DataW.TrodAll enc P W' 0 sp true ts vs ds ps
 | [],vs,ds,ps,_,h,_,_=>by
  obtain⟨rfl,rfl,rfl⟩:=trodAll_nil h
  rfl
 |t::ts,vs,ds,ps,hr,h,hlt,hs=>by
  obtain⟨v,vs',d,ds',p,q,rfl,rfl,rfl,h1,h2⟩:=trodAll_cons h
  exact⟨p,q,WideElems.Trod_stays hl (hr t (by simp)).1 (hr t (by simp)).2 h1 (fun x hx=>hb.same (hlt x (by simp[hx]))) (fun x hx=>hs x (by simp[hx])),
   Mh hl hb ts vs' ds' q (fun u hu=>hr u (by simp[hu])) h2 (fun x hx=>hlt x (by simp[hx])) (fun x hx=>hs x (by simp[hx])),rfl⟩
theorem law_post {f:Func} {s:ChangeSpec} {apart fresh handsOn again:Bool} {W W':World} {args:Array Value} {ds:List (DataW H)} {before:List MemPlace} {tb:TypeId} (hl:laidOutB P=true)
  (hpar:∀t,t∈f.params.toList->P.readableRec t=true/\t<P.types.size) (hres:f.resultTypes= #[tb]) (htb:P.underlying tb=some .bool) (hv:s.vars= [])
  (hW:DataW.Whole enc P f.params.toList s.vars apart W args.toList ds [] before) (hb:Below W.heap.size W W') (hfn:s.fn H ds= {results:= [.lit (.bool true)],args:=ds}):
  s.post enc P f apart fresh handsOn again W args (.bool true) W':=by
 have hlt:∀p∈before,p.block<W.heap.size:=fun p hp=>hW.lt p hp
 have hold:∀p∈before,(fun b=>decide (b<W.heap.size)) p.block=true:=fun p hp=>by simpa using hlt p hp
 have hW':=hW
 obtain⟨p,q,hA,hV,rfl,hz,hn⟩:=hW
 rw[hv] at hV
 obtain⟨_,rfl⟩:=trodVars_none hV
 have hR:∀(b:Nat) (sp:Nat->Bool) (hd:Bool),DataW.TrodAll enc P W' b sp hd f.resultTypes.toList ((Value.bool true).resultList f.resultTypes.size) (s.fn H (ds++ [])).results []:=fun b sp hd=>by
  rw[hres,List.append_nil,hfn]
  exact trodAll_mk1 (shut_bool htb _)
 have hargs:∀sp:Nat->Bool,(∀x∈p++ [],sp x.block=true)->DataW.TrodAll enc P W' 0 sp true f.params.toList args.toList (s.fn H (ds++ [])).args p:=fun sp hsp=>by
  rw[List.append_nil,hfn]
  exact Mh hl hb _ _ _ _ hpar hA (fun x hx=>hlt x (by simp[hx])) (fun x hx=>hsp x (by simp[hx]))
 have hvars:∀sp:Nat->Bool,(∀x∈p++ [],sp x.block=true)->DataW.TrodVars enc P W' sp s.vars (s.fn H (ds++ [])).vars []:=fun sp _=>by
  rw[hv,List.append_nil,hfn]
  rfl
 refine⟨ds,[],p++ [],[],p,[],hW',hR _ _ _,hargs _ hold,hvars _ hold,World.keptBut_mono (fun x hx=>⟨hx,?_⟩) (hb.frame (·∈p++ [])),fun _=> ?_⟩
 ·exact Or.inr (by simpa using hx)
 ·refine⟨?_,_,_,([]++p)++ [],⟨[]++p,[],trodAll_append (hargs _ (fun _ _=>rfl)) (hR _ _ _),hvars _ (fun _ _=>rfl),rfl,?_,?_⟩,?_⟩
  ·exact ok_one hres rfl (okWide_bool_mk htb _)
  ·intro b off hx
   have hin:MemPlace.cell b off∈p++ []:=by simpa using hx
   rw[hb.frozen (hlt _ hin)]
   exact hz b off hin
  ·intro ha
   simpa using hn ha
  ·intro x hx _
   simpa using hx
end
def Eu (P:Program) (t:TypeId):Array (TypeId×Nat):=match P.underlying t with|some (.struct fs)=>fs.map fun f=>(f.type,f.offset)|_=> #[]
section
variable {H:Type} {enc:TypeId×Value->H} {P:Program} {w:World} {base:Nat} {spare:Nat->Bool} {held:Bool}
theorem K4 {t:TypeId} {fl:Array (TypeId×Nat)} {fuel:Nat} {cs:List Value} {x:DataW H×List MemPlace} (hf:Eu P t=fl) (hne:fl.size≠0) (h:DataW.trod enc P w base spare held fuel t cs=some x):
  cs.length=P.cellsOf t/\∀(i:Nat) (ty:TypeId) (off:Nat),fl[i]? =some (ty,off)->∃n y,DataW.trod enc P w base spare held n ty ((cs.drop off).take (P.cellsOf ty))=some y:=by
 unfold Eu at hf
 split at hf
 ·rename_i fs hu
  obtain⟨xs,n,_,_,hl,hxl,hat⟩:=DataW.trod_struct hu h
  refine⟨hl,fun i ty off hi=> ?_⟩
  subst hf
  simp only[Array.getElem?_map,Option.map_eq_some_iff,Prod.mk.injEq] at hi
  obtain⟨f,h1,h2,h3⟩:=hi
  have hh:=hat i f h1
  have hlt:i<xs.length:=by have:=(Array.getElem?_eq_some_iff.1 h1).1;omega
  rw[List.getElem?_eq_getElem hlt] at hh
  subst h2;subst h3
  exact⟨n,_,hh⟩
 ·subst hf;simp at hne
theorem struct_of {t:TypeId} {fl:Array (TypeId×Nat)} (hf:Eu P t=fl) (hne:fl.size≠0):∃fs,P.underlying t=some (.struct fs):=by
 unfold Eu at hf
 split at hf
 ·rename_i fs hu
  exact⟨fs,hu⟩
 ·subst hf;simp at hne
theorem Jl {t:TypeId} {fl:Array (TypeId×Nat)} {fuel:Nat} {cs:List Value} {x:DataW H×List MemPlace} (hf:Eu P t=fl) (hne:fl.size≠0) (hn:P.cellsOf t=fl.size)
  (ha:∀i,i<fl.size->∃ty,fl[i]? =some (ty,i)/\P.underlying ty=some (.int .i64)/\P.cellsOf ty=1) (h:DataW.trod enc P w base spare held fuel t cs=some x):
  cs.length=fl.size/\∀i,i<fl.size->∃z:Int,cs[i]? =some (.int .i64 z)/\I64 z:=by
 obtain⟨hl,hat⟩:=K4 hf hne h
 refine⟨by omega,fun i hi=> ?_⟩
 obtain⟨ty,h1,h2,h3⟩:=ha i hi
 obtain⟨n,y,hy⟩:=hat i ty i h1
 obtain⟨z,hz,_,hw⟩:=DataW.trod_int h2 hy
 refine⟨z,?_,?_⟩
 ·rw[h3] at hz
  have:((cs.drop i).take 1)[0]? =some (.int .i64 z):=by rw[hz];rfl
  simpa using this
 ·simp[Lit.wf,IntKind.min,IntKind.max,IntKind.signed,IntKind.bits] at hw
  exact⟨by omega,by omega⟩
theorem P2 {α:Type} {Q:Nat->α->Prop}:∀n,(∀i,i<n->∃x,Q i x)->∃l:List α,l.length=n/\∀i x,l[i]? =some x->Q i x
 |0,_=>⟨[],rfl,fun i x h=>by simp at h⟩
 |n+1,h=>by
  obtain⟨l,hl,hq⟩:=P2 n fun i hi=>h i (by omega)
  obtain⟨x,hx⟩:=h n (by omega)
  refine⟨l++ [x],by simp[hl],fun i y hy=> ?_⟩
  rcases Nat.lt_or_ge i l.length with hlt|hge
  ·rw[List.getElem?_append_left hlt] at hy
   exact hq i y hy
  ·rw[List.getElem?_append_right hge] at hy
   have:i=l.length:=by
    rcases Nat.eq_or_lt_of_le hge with e|e
    ·exact e.symm
    ·rw[List.getElem?_eq_none (by simp;omega)] at hy;cases hy
   subst this
   simp at hy
   rw[hl,<-hy]
   exact hx
theorem Om {a:Addr} {v:Value} (h:w.cell? a=some v):a=⟨a.block,a.off,none⟩:=by
 obtain⟨b,o,s⟩:=a
 cases s with
 |none=>rfl
 |some k=>
  unfold World.cell? at h
  simp at h
  split at h<;>cases h
theorem Zs {b o n:Nat}:(⟨b,o,none⟩:Addr).add n=⟨b,o+n,none⟩:=by unfold Addr.add;split<;>simp_all
theorem Sd {t e:TypeId} {n fuel:Nat} {fl:Array (TypeId×Nat)} {cs:List Value} {x:DataW H×List MemPlace} (ht:P.underlying t=some (.slice e)) (hf:Eu P e=fl) (hfl:fl.size=n) (hn0:n≠0) (hn:P.cellsOf e=n)
  (ha:∀i,i<fl.size->∃ty,fl[i]? =some (ty,i)/\P.underlying ty=some (.int .i64)/\P.cellsOf ty=1) (h:DataW.trod enc P w base spare held fuel t cs=some x):
  ∃(p:Option Addr) (len cap:Nat),cs= [.slice p len cap]/\(p=none->len=0/\cap=0)/\len<=cap/\cap<=maxLen/\
   ∀i,i<len->∃b o,p=some ⟨b,o,none⟩/\∀j,j<n->∃z:Int,w.cell? ⟨b,o+i*n+j,none⟩=some (.int .i64 z)/\I64 z:=by
 rcases open_slice ht h with⟨rfl,rfl⟩|⟨a,len,cap,m,k,D,Pl,rfl,hb,hl,hm,hmm,hx,hi⟩
 ·exact⟨none,0,0,rfl,fun _=>⟨rfl,rfl⟩,Nat.le_refl _,Nat.zero_le _,fun i hi=>by omega⟩
 ·refine⟨some a,len,cap,rfl,(fun e=>by cases e),hl,hm,fun i hilt=> ?_⟩
  have hlm:len<=m:=by rw[hmm];split<;>omega
  have key:∀i,i<len->∀j,j<n->∃z:Int,w.cell? (a.add (i*n+j))=some (.int .i64 z)/\I64 z:=by
   intro i hilt j hj
   obtain⟨cs',hc,ht'⟩:=hi i (by omega)
   obtain⟨_,hcl,hat⟩:=World.cells?_some hc
   obtain⟨hl',hz⟩:=Jl hf (by omega) (by omega) ha ht'
   obtain⟨z,hz1,hz2⟩:=hz j (by omega)
   have:=hat j (by omega)
   rw[add_add,hn,hz1] at this
   exact⟨z,this,hz2⟩
  obtain⟨z0,hz0,_⟩:=key 0 (by omega) 0 (by omega)
  simp[Addr.add] at hz0
  have hs:=Om hz0
  refine⟨a.block,a.off,by rw[<-hs],fun j hj=> ?_⟩
  obtain⟨z,h1,h2⟩:=key i hilt j hj
  rw[hs,Zs] at h1
  exact⟨z,by rw[Nat.add_assoc];exact h1,h2⟩
theorem open_nums {t e:TypeId} {fuel:Nat} {cs:List Value} {x:DataW H×List MemPlace} (ht:P.underlying t=some (.slice e)) (he:P.underlying e=some (.int .i64)) (hc:P.cellsOf e=1) (h:DataW.trod enc P w base spare held fuel t cs=some x):
  ∃(p:Option Addr) (l:List Int) (cap:Nat),cs= [.slice p l.length cap]/\(p=none->l= []/\cap=0)/\l.length<=cap/\cap<=maxLen/\Au w p l/\∀z,z∈l->I64 z:=by
 rcases open_ints ht he hc h with⟨rfl,_⟩|⟨a,len,cap,zs,rfl,hb,hl,hm,hzl,_,hz,hw⟩
 ·exact⟨none,[],0,rfl,fun _=>⟨rfl,rfl⟩,Nat.le_refl _,Nat.zero_le _,⟨fun i x h=>by simp at h⟩,fun z h=>by simp at h⟩
 ·have hle:len<=zs.length:=by rw[hzl];split<;>omega
  refine⟨some a,zs.take len,cap,by simp[hle],(fun e=>by cases e),by simp;omega,hm,⟨fun i x hx=> ?_⟩,fun z hz'=> ?_⟩
  ·rw[List.getElem?_take] at hx
   split at hx
   ·rename_i hil
    have h0:=hz 0 (by omega)
    simp[Addr.add] at h0
    have hs:=Om h0
    have hi:=hz i (by omega)
    rw[hs,Zs] at hi
    refine⟨a.block,a.off,by rw[<-hs],?_⟩
    rw[hi,List.getD_eq_getElem?_getD,hx]
    rfl
   ·cases hx
  ·have:=hw z (List.mem_of_mem_take hz')
   simp[Lit.wf,IntKind.min,IntKind.max,IntKind.signed,IntKind.bits] at this
   exact⟨by omega,by omega⟩
theorem wf_I64 {z:Int} (hw:(Lit.int .i64 z).wf=true):I64 z:=by
 simp[Lit.wf,IntKind.min,IntKind.max,IntKind.signed,IntKind.bits] at hw
 exact⟨by omega,by omega⟩
end
section
variable {H:Type} {enc:TypeId×Value->H} {w:World} {base:Nat} {spare:Nat->Bool} {held:Bool}
theorem Tryz.fieldsRun :Eu Tryz.prog 144= #[(2,0),(2,1),(3,2)]:=by kernel_rfl
theorem Tryz.fieldsLine :Eu Tryz.prog 95= #[(2,0),(2,1),(2,2),(2,3)]:=by kernel_rfl
theorem Tryz.fieldsSeg :Eu Tryz.prog 98= #[(3,0),(93,1),(95,2),(96,6),(2,7)]:=by kernel_rfl
theorem Tryz.isInt :Tryz.prog.underlying 3=some (.int .i64)/\Tryz.prog.cellsOf 3=1:=⟨by kernel_rfl,by kernel_rfl⟩
theorem Tryz.isInt64 :Tryz.prog.underlying 2=some (.int .i64)/\Tryz.prog.cellsOf 2=1:=⟨by kernel_rfl,by kernel_rfl⟩
theorem Rm {fuel:Nat} {cs:List Value} {x:DataW H×List MemPlace} (h:DataW.trod enc Tryz.prog w base spare held fuel 93 cs=some x):
  ∃(p:Option Addr) (l:List Ah) (cap:Nat),cs= [.slice p l.length cap]/\(p=none->l= []/\cap=0)/\l.length<=cap/\cap<=maxLen/\Ai w p l/\∀r,r∈l->I64 r.f/\I64 r.s/\I64 r.c:=by
 obtain⟨p,len,cap,rfl,hn,hl,hm,hi⟩:=Sd (n:=3) (by kernel_rfl) Tryz.fieldsRun rfl (by omega) (by kernel_rfl) (fun i hi=>by
  match i,hi with
  |0,_=>exact⟨_,rfl,Tryz.isInt64⟩
  |1,_=>exact⟨_,rfl,Tryz.isInt64⟩
  |2,_=>exact⟨_,rfl,Tryz.isInt⟩) h
 obtain⟨l,rfl,hq⟩:=P2 (Q:=fun i (r:Ah)=>(∃b o,p=some ⟨b,o,none⟩/\w.cell? ⟨b,o+i*3,none⟩=some (.int .i64 r.f)/\w.cell? ⟨b,o+i*3+1,none⟩=some (.int .i64 r.s)/\w.cell? ⟨b,o+i*3+2,none⟩=some (.int .i64 r.c))/\I64 r.f/\I64 r.s/\I64 r.c) len (fun i hilt=>by
  obtain⟨b,o,e,hj⟩:=hi i hilt
  obtain⟨f,f1,f2⟩:=hj 0 (by omega)
  obtain⟨s,s1,s2⟩:=hj 1 (by omega)
  obtain⟨c,c1,c2⟩:=hj 2 (by omega)
  exact⟨⟨f,s,c⟩,⟨b,o,e,by simpa using f1,s1,c1⟩,f2,s2,c2⟩)
 refine⟨p,l,cap,rfl,fun e=>⟨List.length_eq_zero_iff.1 (hn e).1,(hn e).2⟩,hl,hm,⟨fun i r hr=>(hq i r hr).1⟩,fun r hr=> ?_⟩
 obtain⟨i,hi⟩:=List.getElem?_of_mem hr
 exact(hq i r hi).2
end
theorem pars_ok {P:Program} {ts:List TypeId} (h:(ts.all fun t=>P.readableRec t&&decide (t<P.types.size))=true):∀t,t∈ts->P.readableRec t=true/\t<P.types.size:=fun t ht=>by
 have:=List.all_eq_true.1 h t ht
 simpa using this
theorem Tryz.ownKnob :ownKnob Tryz.prog.godebug=none:=by kernel_rfl
theorem Tryz.laidOut :laidOutB Tryz.prog=true:=by kernel_rfl
section
variable {H:Type} {enc:TypeId×Value->H} {w:World} {base:Nat} {spare:Nat->Bool} {held:Bool}
theorem Tryz.fieldsSer :Eu Tryz.prog 25= #[(9,0),(2,1),(2,2),(2,3),(3,4),(22,5),(23,6)]:=by kernel_rfl
theorem Tryz.fieldsPoint :Eu Tryz.prog 91= #[(2,0),(2,1)]:=by kernel_rfl
theorem Rl {fuel:Nat} {cs:List Value} {x:DataW H×List MemPlace} (hf:DataW.trod enc Tryz.prog w base spare held fuel 98 cs=some x):
  ∃r:Dm,cs=(Gl r).toList/\Came w r.s r.p r.q r.cap r.vc:=by
 have hC:Tryz.prog.cellsOf 98=8:=by kernel_rfl
 have hR:Tryz.prog.cellsOf 93=1:=by kernel_rfl
 have hV:Tryz.prog.cellsOf 96=1:=by kernel_rfl
 have hL:Tryz.prog.cellsOf 95=4:=by kernel_rfl
 obtain⟨hsz,hat⟩:=K4 Tryz.fieldsSeg (by simp) hf
 rw[hC] at hsz
 match cs,hsz with
 | [c0,c1,c2,c3,c4,c5,c6,c7],_=>
  obtain⟨n0,y0,h0⟩:=hat 0 _ _ rfl
  obtain⟨n1,y1,h1⟩:=hat 1 _ _ rfl
  obtain⟨n2,y2,h2⟩:=hat 2 _ _ rfl
  obtain⟨n3,y3,h3⟩:=hat 3 _ _ rfl
  obtain⟨n4,y4,h4⟩:=hat 4 _ _ rfl
  rw[Tryz.isInt.2] at h0
  rw[hR] at h1
  rw[hL] at h2
  rw[hV] at h3
  rw[Tryz.isInt64.2] at h4
  obtain⟨K,eK,_,wK⟩:=DataW.trod_int Tryz.isInt.1 h0
  obtain⟨p,l,cap,e1,r1,r2,r3,r4,r5⟩:=Rm h1
  obtain⟨_,hln⟩:=Jl Tryz.fieldsLine (by simp) (by rw[hL];rfl) (fun i hi=>by
   match i,hi with
   |0,_=>exact⟨_,rfl,Tryz.isInt64⟩
   |1,_=>exact⟨_,rfl,Tryz.isInt64⟩
   |2,_=>exact⟨_,rfl,Tryz.isInt64⟩
   |3,_=>exact⟨_,rfl,Tryz.isInt64⟩) h2
  obtain⟨A,a1,a2⟩:=hln 0 (by simp)
  obtain⟨R,b1,b2⟩:=hln 1 (by simp)
  obtain⟨N,g1,g2⟩:=hln 2 (by simp)
  obtain⟨D,d1,d2⟩:=hln 3 (by simp)
  obtain⟨q,v,vc,e3,q1,q2,q3,q4,q5⟩:=open_nums (by kernel_rfl) Tryz.isInt64.1 Tryz.isInt64.2 h3
  obtain⟨E,eE,_,wE⟩:=DataW.trod_int Tryz.isInt64.1 h4
  simp at eK e1 a1 b1 g1 d1 e3 eE
  subst eK;subst e1;subst a1;subst b1;subst g1;subst d1;subst e3;subst eE
  unfold maxLen at r3 q3
  exact⟨⟨⟨K,l,A,R,N,D,v,E⟩,p,q,cap,vc⟩,rfl,⟨r4,q4,r1,q1,r2,q2,by show l.length<=_;omega,by show v.length<=_;omega⟩⟩
theorem open_segs {fuel:Nat} {cs:List Value} {x:DataW H×List MemPlace} (h:DataW.trod enc Tryz.prog w base spare held fuel 22 cs=some x):
  ∃(p:Option Addr) (rows:List Dm) (cap:Nat),cs= [.slice p rows.length cap]/\(p=none->rows.length=0/\cap=0)/\rows.length<=cap/\Ec w p rows:=by
 have hC:Tryz.prog.cellsOf 98=8:=by kernel_rfl
 rcases open_slice (e:=98) (by kernel_rfl) h with⟨rfl,rfl⟩|⟨a,len,cap,m,k,D,Pl,rfl,hb,hl,hm,hmm,hx,hi⟩
 ·exact⟨none,[],0,rfl,fun _=>⟨rfl,rfl⟩,Nat.le_refl _,fun i r hr=>by simp at hr⟩
 ·have hlm:len<=m:=by rw[hmm];split<;>omega
  have hs:0<len->a=⟨a.block,a.off,none⟩:=fun h0=>by
   obtain⟨cs',hc,ht'⟩:=hi 0 (by omega)
   rw[hC] at hc
   obtain⟨_,hcl,hat⟩:=World.cells?_some hc
   have h1:=hat 0 (by omega)
   rw[List.getElem?_eq_getElem (by omega)] at h1
   simp[Addr.add] at h1
   exact Om h1
  obtain⟨rows,rfl,hq⟩:=P2 (Q:=fun i (r:Dm)=>(∃b o,a=⟨b,o,none⟩/\(∀j v,(Gl r)[j]? =some v->w.cell? ⟨b,o+i*8+j,none⟩=some v))/\Came w r.s r.p r.q r.cap r.vc) len (fun i hilt=>by
   obtain⟨cs',hc,ht'⟩:=hi i (by omega)
   rw[hC] at hc
   obtain⟨_,hcl,hat⟩:=World.cells?_some hc
   obtain⟨r,rfl,hcm⟩:=Rl ht'
   refine⟨r,⟨a.block,a.off,hs (by omega),fun j v hv=> ?_⟩,hcm⟩
   have hj:j<8:=by have:=(Array.getElem?_eq_some_iff.1 hv).1;rw[show (Gl r).size=8 from rfl] at this;exact this
   have h1:=hat j hj
   rw[add_add,hs (by omega),Zs,Array.getElem?_toList,hv] at h1
   rw[Nat.add_assoc]
   exact h1)
  exact⟨some a,rows,cap,rfl,(fun e=>by cases e),hl,fun i r hr=>by
   obtain⟨⟨b,o,e,h1⟩,h2⟩:=hq i r hr
   exact⟨b,o,by rw[e],h1,h2⟩⟩
theorem open_pts {fuel:Nat} {cs:List Value} {x:DataW H×List MemPlace} (h:DataW.trod enc Tryz.prog w base spare held fuel 23 cs=some x):
  ∃(p:Option Addr) (l:List (Int×Int)) (cap:Nat),cs= [.slice p l.length cap]/\(p=none->l.length=0/\cap=0)/\l.length<=cap/\Bv w p l:=by
 obtain⟨p,len,cap,rfl,hn,hl,hm,hi⟩:=Sd (n:=2) (by kernel_rfl) Tryz.fieldsPoint rfl (by omega) (by kernel_rfl) (fun i hi=>by
  match i,hi with
  |0,_=>exact⟨_,rfl,Tryz.isInt64⟩
  |1,_=>exact⟨_,rfl,Tryz.isInt64⟩) h
 obtain⟨l,rfl,hq⟩:=P2 (Q:=fun i (r:Int×Int)=>∃b o,p=some ⟨b,o,none⟩/\w.cell? ⟨b,o+i*2,none⟩=some (.int .i64 r.1)/\w.cell? ⟨b,o+i*2+1,none⟩=some (.int .i64 r.2)) len (fun i hilt=>by
  obtain⟨b,o,e,hj⟩:=hi i hilt
  obtain⟨f,f1,f2⟩:=hj 0 (by omega)
  obtain⟨s,s1,s2⟩:=hj 1 (by omega)
  exact⟨(f,s),b,o,e,by simpa using f1,s1⟩)
 exact⟨p,l,cap,rfl,hn,hl,⟨fun i r hr=>hq i r hr⟩⟩
theorem open_ser {r:Reach} {b0:Nat} {v:Value} {d:DataW H} {ps:List MemPlace} (hv:Value.okWide Tryz.prog w r b0 25 v) (h:DataW.Trod enc Tryz.prog w base spare held 25 v d ps):
  ∃nm ep fl la sc p cs rows q co pts,v= .agg #[.string nm,.int .i64 ep,.int .i64 fl,.int .i64 la,.int .i64 sc,.slice p rows.length cs,.slice q pts.length co]/\Kd w p q cs co rows pts:=by
 obtain⟨fs,hfs⟩:∃fs,Tryz.prog.underlying 25=some (.struct fs):=struct_of Tryz.fieldsSer (by simp)
 obtain⟨cs,rfl,hsz⟩:=okWide_struct hfs hv
 have hC:Tryz.prog.cellsOf 25=7:=by kernel_rfl
 have hR:Tryz.prog.cellsOf 22=1:=by kernel_rfl
 have hV:Tryz.prog.cellsOf 23=1:=by kernel_rfl
 have hS:Tryz.prog.cellsOf 9=1:=by kernel_rfl
 obtain⟨fuel,hf⟩:=h
 obtain⟨l⟩:=cs
 obtain⟨_,hat⟩:=K4 Tryz.fieldsSer (by simp) hf
 rw[hC] at hsz
 match l,hsz with
 | [c0,c1,c2,c3,c4,c5,c6],_=>
  obtain⟨n0,y0,h0⟩:=hat 0 _ _ rfl
  obtain⟨n1,y1,h1⟩:=hat 1 _ _ rfl
  obtain⟨n2,y2,h2⟩:=hat 2 _ _ rfl
  obtain⟨n3,y3,h3⟩:=hat 3 _ _ rfl
  obtain⟨n4,y4,h4⟩:=hat 4 _ _ rfl
  obtain⟨n5,y5,h5⟩:=hat 5 _ _ rfl
  obtain⟨n6,y6,h6⟩:=hat 6 _ _ rfl
  rw[hS] at h0
  rw[Tryz.isInt64.2] at h1 h2 h3
  rw[Tryz.isInt.2] at h4
  rw[hR] at h5
  rw[hV] at h6
  obtain⟨nm,e0,_⟩:=DataW.trod_string (by kernel_rfl) h0
  obtain⟨ep,e1,_,_⟩:=DataW.trod_int Tryz.isInt64.1 h1
  obtain⟨fl,e2,_,_⟩:=DataW.trod_int Tryz.isInt64.1 h2
  obtain⟨la,e3,_,_⟩:=DataW.trod_int Tryz.isInt64.1 h3
  obtain⟨sc,e4,_,_⟩:=DataW.trod_int Tryz.isInt.1 h4
  obtain⟨p,rows,cs,e5,r1,r2,r3⟩:=open_segs h5
  obtain⟨q,pts,co,e6,s1,s2,s3⟩:=open_pts h6
  simp[Value.cells] at e0 e1 e2 e3 e4 e5 e6
  subst e0;subst e1;subst e2;subst e3;subst e4;subst e5;subst e6
  exact⟨nm,ep,fl,la,sc,p,cs,rows,q,co,pts,rfl,⟨r3,s3,r1,s1,r2,s2⟩⟩
end
section
variable {H:Type} {enc:TypeId×Value->H} {w:World} {base:Nat} {spare:Nat->Bool} {held:Bool}
end
theorem Zd (s:Be) (ps:Option Addr) (cs:Nat) (po:Option Addr) (co:Nat) (w:World) (hin:Av w s ps po) (hnm:s.name.size<=1000):
  Cb 30 #[.agg (Cg s ps cs po co)] w (.bool (Bn s)):=by
 have c1:=fun W (hW:Below w.heap.size w W)=>Zf s ps cs po co W (hin.below hW) hnm
 unfold Cg at c1⊢
 have H_c1:=Hd c1
 clear c1
 go_enter Tryz.func30,Tryz.ntmps30
 go_wp2_with fail
 refine(H_c1.out _ Aa).mono ?_
 rintro e w1 ⟨rfl,hb1⟩
 have z2:=hb1.size
 try simp at z2
 refine Ae w w1 (Bc w.heap.size #[.string s.name,s.eps,s.floor,s.last,s.scale,.slice ps s.segs.length cs,.slice po s.opn.length co] 25<|Bz) ?_
 rintro hW z3 ⟨⟨b1,yb1,k1,f1⟩,-⟩
 clear hb1
 go_wp2
 refine bodyPost_ret (by simp[results,Tryz.results30,go_sem,k1,f1,yb1]) rfl ⟨rfl,by exact Aa⟩
theorem name_few (nm:ByteArray):(nm.extract 0 (mn (nm.size:Int) 20).toNat).size<=1000:=by
 have:=Hr (nm.size:Int) 20
 rw[ByteArray.size_extract]
 omega
end Go.Proofs.YtidfcoooccblaaaGreat
namespace Go.Proofs.YtidfcoooccblaaaGreat
open Go.RowKit
attribute [local simp] Oper.looksAt Op.operands Call.operands Aj Det Ao
def Ut (L:List Ah) (n:Nat):Bo:=fun v w=>∃p j,v= .slice p n j/\Ai w p L
theorem Ai.rex9 {L:List Nat} {w w':World} {p:Option Addr} {l:List Ah} (h:Ai w p l) (hr:Rex L w w') (hL:L= []):Ai w' p l:=by subst hL;exact h.below hr.below
theorem Ut.closed (L:List Ah) (n:Nat):Bj [] (Ut L n):=fun _ _ _ hr ⟨p,j,e,h⟩=>⟨p,j,e,h.rex9 hr rfl⟩
theorem nine_sets {w:World} {g:Nat} {t:TypeId} {o0 o1 o2 o3 o4 o5 o6 o7 o8:Value} (v0 v1 v2 v3 v4 v5 v6 v7 v8:Int) (h:Blk w g #[o0,o1,o2,o3,o4,o5,o6,o7,o8] t):
  ∃V,(((((((((w.setCell ⟨g,0,none⟩ (.int .i64 v0)).setCell ⟨g,1,none⟩ (.int .i64 v1)).setCell ⟨g,2,none⟩ (.int .i64 v2)).setCell ⟨g,3,none⟩ (.int .i64 v3)).setCell ⟨g,4,none⟩ (.int .i64 v4)).setCell ⟨g,5,none⟩ (.int .i64 v5)).setCell ⟨g,6,none⟩ (.int .i64 v6)).setCell ⟨g,7,none⟩ (.int .i64 v7)).setCell ⟨g,8,none⟩ (.int .i64 v8))=V/\Blk V g #[.int .i64 v0,.int .i64 v1,.int .i64 v2,.int .i64 v3,.int .i64 v4,.int .i64 v5,.int .i64 v6,.int .i64 v7,.int .i64 v8] t/\(∀b cs t,b≠g->Blk w b cs t->Blk V b cs t)/\(∀(B:Nat) (w0:World),B<=g->Below B w0 w->Below B w0 V):=by
 refine⟨_,rfl,?_,fun b cs t hb h=> ?_,fun B w0 hB h=> ?_⟩
 ·have h9:=(((((((((h.set 0 (.int .i64 v0)).set 1 (.int .i64 v1)).set 2 (.int .i64 v2)).set 3 (.int .i64 v3)).set 4 (.int .i64 v4)).set 5 (.int .i64 v5)).set 6 (.int .i64 v6)).set 7 (.int .i64 v7)).set 8 (.int .i64 v8))
  simp only[List.setIfInBounds_toArray,List.set_cons_zero,List.set_cons_succ] at h9
  exact h9
 ·exact((((((((h.setO hb _ _).setO hb _ _).setO hb _ _).setO hb _ _).setO hb _ _).setO hb _ _).setO hb _ _).setO hb _ _).setO hb _ _
 ·exact((((((((h.setCell hB _).setCell hB _).setCell hB _).setCell hB _).setCell hB _).setCell hB _).setCell hB _).setCell hB _).setCell hB _
theorem one_set {w:World} {g:Nat} {t:TypeId} {o0 o1 o2 o3 o4 o5 o6 o7 o8:Value} (v:Int) (h:Blk w g #[o0,o1,o2,o3,o4,o5,o6,o7,o8] t):
  ∃V,(w.setCell ⟨g,0,none⟩ (.int .i64 v))=V/\Blk V g #[.int .i64 v,o1,o2,o3,o4,o5,o6,o7,o8] t/\(∀b cs t,b≠g->Blk w b cs t->Blk V b cs t)/\(∀(B:Nat) (w0:World),B<=g->Below B w0 w->Below B w0 V):=by
 refine⟨_,rfl,?_,fun b cs t hb h=>h.setO hb _ _,fun B w0 hB h=>h.setCell hB _⟩
 exact h.set2 rfl
def Xa (w:World) (Z0:Array Value) (s:Be) (pS:Option Addr) (capS:Nat) (pP:Option Addr) (capP gs:Nat) (q:Bool) (a b:Int) (a':Act) (W:World):Prop:=
 Below w.heap.size w W/\Blk W w.heap.size Z0 25/\Av W s pS pP/\Blk W gs #[.string s.name,.int .i64 s.eps,.int .i64 s.floor,.int .i64 s.last,.int .i64 s.scale,.slice pS s.segs.length capS,.slice pP s.opn.length capP] 25/\∃z:Int,(∃u:Nat->Value,a'= {tmps:= #[u 0,.int .i64 a,.int .i64 b,.pointer (some ⟨w.heap.size,0,none⟩),u 4,u 5,u 6,.pointer (some ⟨gs,0,none⟩),.bool q,.int .i64 z,u 10,u 11,u 12,u 13,u 14,u 15,u 16,u 17,u 18,u 19,u 20,u 21,u 22,u 23,u 24,u 25,u 26,u 27,u 28,u 29,u 30,u 31,u 32,u 33,u 34,u 35,u 36,u 37,u 38,u 39,u 40,u 41,u 42,u 43,u 44,u 45,u 46,u 47,u 48,u 49,u 50,u 51,u 52,u 53,u 54,u 55,u 56,u 57,u 58,u 59,u 60,u 61,u 62,u 63,u 64,u 65,u 66,u 67,u 68,u 69,u 70,u 71,u 72,u 73,u 74,u 75],defers:= []})/\ -1<=z/\z<=8
theorem bones_w (nm:ByteArray) (ep fl la sc:Int) (ps po:Option Addr) (ns cs no co:Nat) (s:Be) (a b er:Int) (n:Nat) (L:List Ah) (q:Bool) (t:Int->Ea) (w:World) (hcase:Hid ((q=false/\er=340/\n=0)∨(q=true/\er=0))) (h340:q=false->∀z,t z=⟨340,0,0,0,0,0,0,0,0⟩) (h2:q=true->∀z,¬(1<=z/\z<=5)->t z=⟨2,0,0,0,0,0,0,0,0⟩)
  (c1:∀W,Below w.heap.size w W->Cb 28 #[] W (.bool true))
  (c2:∀W,Below w.heap.size w W->Calls Tryz.prog 29 #[.agg #[.string nm,.int .i64 ep,.int .i64 fl,.int .i64 la,.int .i64 sc,.slice ps ns cs,.slice po no co]] W fun e w'=>∃pS capS pP capP,e= .returned (.agg #[.string s.name,.int .i64 s.eps,.int .i64 s.floor,.int .i64 s.last,.int .i64 s.scale,.slice pS s.segs.length capS,.slice pP s.opn.length capP])/\Below W.heap.size W w'/\Av w' s pS pP)
  (cR:∀W pS capS pP capP,Av W s pS pP->Cb 30 #[.agg #[.string s.name,.int .i64 s.eps,.int .i64 s.floor,.int .i64 s.last,.int .i64 s.scale,.slice pS s.segs.length capS,.slice pP s.opn.length capP]] W (.bool q))
  (cO:∀z,∀W pS capS pP capP,Av W s pS pP->Cb 33 #[.agg #[.string s.name,.int .i64 s.eps,.int .i64 s.floor,.int .i64 s.last,.int .i64 s.scale,.slice pS s.segs.length capS,.slice pP s.opn.length capP],.int .i64 z,.int .i64 a,.int .i64 b] W (.agg #[.int .i64 (t z).er,.int .i64 (t z).n,.int .i64 (t z).x,.int .i64 (t z).y,.int .i64 (t z).m0,.int .i64 (t z).m1,.int .i64 (t z).m2,.int .i64 (t z).m3,.int .i64 (t z).m4]))
  (cP:q=true->∀z,1<=z->z<=5->∀W pS capS pP capP,Av W s pS pP->Cb 32 #[.agg #[.string s.name,.int .i64 s.eps,.int .i64 s.floor,.int .i64 s.last,.int .i64 s.scale,.slice pS s.segs.length capS,.slice pP s.opn.length capP],.int .i64 z,.int .i64 a,.int .i64 b] W (.agg #[.int .i64 (t z).er,.int .i64 (t z).n,.int .i64 (t z).x,.int .i64 (t z).y,.int .i64 (t z).m0,.int .i64 (t z).m1,.int .i64 (t z).m2,.int .i64 (t z).m3,.int .i64 (t z).m4]))
  (cL:∀W pS capS pP capP,Av W s pS pP->Calls Tryz.prog 34 #[.agg #[.string s.name,.int .i64 s.eps,.int .i64 s.floor,.int .i64 s.last,.int .i64 s.scale,.slice pS s.segs.length capS,.slice pP s.opn.length capP],.int .i64 a,.int .i64 b] W fun e w'=>∃p j,e= .returned (.tuple #[.slice p n j,.int .i64 er])/\Ai w' p L/\Below W.heap.size W w')
  (cU:q=true->∀W pS capS pP capP,Av W s pS pP->Calls Tryz.prog 36 #[.agg #[.string s.name,.int .i64 s.eps,.int .i64 s.floor,.int .i64 s.last,.int .i64 s.scale,.slice pS s.segs.length capS,.slice pP s.opn.length capP],.int .i64 a,.int .i64 b] W fun e w'=>∃p j,e= .returned (.slice p n j)/\Ai w' p L/\Below W.heap.size W w')
  (cE:∀W p j p' j',Ai W p L->Ai W p' L->Cb 35 #[.slice p n j,.slice p' n j'] W (.bool true))
  (cS:∀W pS capS pP capP p2 c2' p3 c3',Av W s pS pP->Av W s p2 p3->Cb 37 #[.agg #[.string s.name,.int .i64 s.eps,.int .i64 s.floor,.int .i64 s.last,.int .i64 s.scale,.slice pS s.segs.length capS,.slice pP s.opn.length capP],.agg #[.string s.name,.int .i64 s.eps,.int .i64 s.floor,.int .i64 s.last,.int .i64 s.scale,.slice p2 s.segs.length c2',.slice p3 s.opn.length c3']] W (.bool true)):
  Cb 6 #[.agg #[.string nm,.int .i64 ep,.int .i64 fl,.int .i64 la,.int .i64 sc,.slice ps ns cs,.slice po no co],.int .i64 a,.int .i64 b] w (.bool true):=by
 have H_c1:=Hd c1
 clear c1
 have H_cR:=Hd cR
 clear cR
 go_enter Tryz.func6,Tryz.ntmps6
 replace c2:=Hd c2
 replace cU:=Hd cU
 replace cE:=Hd cE
 replace cS:=Hd cS
 replace cO:=Hd cO
 replace cP:=Hd cP
 replace cL:=Hd cL
 replace h340:=Hd h340
 replace h2:=Hd h2
 go_wp2_with fail
 refine(H_c1.out _ Aa).mono ?_
 rintro e w1 ⟨rfl,hb1⟩
 have z2:=hb1.size
 try simp at z2
 refine Ae w w1 (Bc w.heap.size #[.string nm,.int .i64 ep,.int .i64 fl,.int .i64 la,.int .i64 sc,.slice ps ns cs,.slice po no co] 25<|Bz) ?_
 rintro hW z3 ⟨⟨b1,yb1,k1,f1⟩,-⟩
 clear hb1
 go_wp2_with fail
 refine(c2.out _ Aa).mono ?_
 rintro e w4 ⟨pS,capS,pP,capP,rfl,hb4,hs⟩
 have z5:=hb4.size
 try simp at z5
 clear k1 f1
 refine Ae w w4 (Bc w.heap.size #[.string nm,.int .i64 ep,.int .i64 fl,.int .i64 la,.int .i64 sc,.slice ps ns cs,.slice po no co] 25<|Bz) ?_
 clear b1 hW
 rintro hW z6 ⟨⟨b1,yb1,k1,f1⟩,-⟩
 have b2:=hs
 clear hs
 go_wp2_with fail
 refine(H_cR.out _ pS capS pP capP (Av.alloc b2 _)).mono ?_
 rintro e w7 ⟨rfl,hb7⟩
 have z8:=hb7.size
 try simp at z8
 clear k1 f1
 refine Ae w w7 (Bc w.heap.size #[.string nm,.int .i64 ep,.int .i64 fl,.int .i64 la,.int .i64 sc,.slice ps ns cs,.slice po no co] 25<|Rc (fun W'=>Av W' s pS pP)<|Bc w4.heap.size #[.string s.name,.int .i64 s.eps,.int .i64 s.floor,.int .i64 s.last,.int .i64 s.scale,.slice pS s.segs.length capS,.slice pP s.opn.length capP] 25<|Bz) ?_ (hR:=(Bc.mk (by exact Ab)<|Rc.mk (by first|exact b2|exact(Av.alloc b2 _).below (by assumption)|exact b2.below (by assumption)|exact b2.below Aa)<|Bc.mk (by exact Ab)<|trivial))
 clear b1 b2 hW
 rintro hW z9 ⟨⟨b1,yb1,k1,f1⟩,b2,⟨b3,yb3,k3,f3⟩,-⟩
 clear hb7
 go_wp2
 refine wp_loop (Xa w #[.string nm,.int .i64 ep,.int .i64 fl,.int .i64 la,.int .i64 sc,.slice ps ns cs,.slice po no co] s pS capS pP capP w4.heap.size q a b) (fun a' _=>(8-Ak (a'.tmps.getD 9 undef)).toNat) ?_ ?_
 ·unfold Xa
  exact⟨hW,b1,b2,b3,-1,Ac rfl,by omega,by omega⟩
 clear k1 f1 k3 f3
 obtain⟨gs,hgs⟩:∃g,w4.heap.size=g:=⟨_,rfl⟩
 rw[hgs]
 clear hgs b1 b2 b3 hW
 rintro a' W ⟨hW0,b1,b2,b3,z,⟨u,rfl⟩,hz1,hz2⟩
 have hz:=hW0.size
 have zb1:=b1.lt
 have zb3:=b3.lt
 by_cases hz8:z<=7
 ·have cB:=cO.out z
  have cZ:=fun hq h1 h5=>cP.out hq z h1 h5
  have k340:=fun hq=>h340.out hq z
  have k2':=fun hq hn=>h2.out hq z hn
  obtain⟨T,hT⟩:∃T,t z=T:=⟨_,rfl⟩
  rw[hT] at cB cZ k340 k2'
  obtain⟨er,n,x,y,m0,m1,m2,m3,m4⟩:=T
  simp only[Ea.mk.injEq] at cB cZ k340 k2'
  clear hT
  cases hq:q with
  |false=>
   obtain⟨rfl,rfl,rfl,rfl,rfl,rfl,rfl,rfl,rfl⟩:=k340 hq
   replace cB:=Hd cB
   clear cZ k340 k2' hq
   have hin9:=b2
   have k1:=b1.cell
   have f1:=b1.frozen
   have k3:=b3.cell
   have f3:=b3.frozen
   go_upto_region 13 with(fail)
   clear k1 f1 k3 f3
   refine Ad W (Bc w.heap.size #[.string nm,.int .i64 ep,.int .i64 fl,.int .i64 la,.int .i64 sc,.slice ps ns cs,.slice po no co] 25<|Rc (fun W'=>Av W' s pS pP)<|Bc gs #[.string s.name,.int .i64 s.eps,.int .i64 s.floor,.int .i64 s.last,.int .i64 s.scale,.slice pS s.segs.length capS,.slice pP s.opn.length capP] 25<|Bc W.heap.size #[.int .i64 340,.int .i64 0,.int .i64 0,.int .i64 0,.int .i64 0,.int .i64 0,.int .i64 0,.int .i64 0,.int .i64 0] 67<|Bz) ?_ (hI:=by exact Aa) (hR:=(Bc.mk (by exact Ab)<|Rc.mk (by first|exact b2|exact b2.below (by assumption)|exact b2.below Aa)<|Bc.mk (by exact Ab)<|Bc.mk (by exact Ab)<|trivial))
   clear b1 b2 b3
   rintro W41 hW z42 hL
   obtain⟨⟨b1,yb1,k1,f1⟩,b2,⟨b3,yb3,k3,f3⟩,⟨b4,yb4,k4,f4⟩,-⟩:=id hL
   clear k1 f1 k3 f3 k4 f4
   refine C2 7 76 hW hL ?_
   iterate 4 refine dA ?_
   refine cA (fun W' hC=>cB.out W' pS capS pP capP hC.2.2.1) ?_
   iterate 2 refine dA ?_
   clear hW hL b1 b2 b3 b4
   rintro W43 hW z44 hL
   simp only[ndR]
   intros
   simp only[ndS]
   refine wpList_nil ?_
   obtain⟨⟨b1,yb1,k1,f1⟩,b2,⟨b3,yb3,k3,f3⟩,⟨b4,yb4,k4,f4⟩,-⟩:=hL
   go_wp2
   refine⟨?_,by simp[Ak];omega⟩
   unfold Xa
   exact⟨hW0.trans (hW.mono hz),b1,b2,b3,z+1,Ac rfl,by omega,by omega⟩
  |true=>
   by_cases hk:1<=z/\z<=5
   ·replace cZ:=Hd (cZ hq hk.1 hk.2)
    have hkn:=Hd (show (decide (1<=z)&&decide (z<=5))=true by rw[decide_eq_true hk.1,decide_eq_true hk.2];rfl)
    replace cB:=Hd cB
    clear k340 k2' hq hk
    have hin9:=b2
    have k1:=b1.cell
    have f1:=b1.frozen
    have k3:=b3.cell
    have f3:=b3.frozen
    go_wp2_with fail
    refine(Rb z _).mono ?_
    rintro e w41 ⟨rfl,hb41⟩
    have z42:=hb41.size
    try simp at z42
    clear k1 f1 k3 f3
    refine Ae W w41 (Bc w.heap.size #[.string nm,.int .i64 ep,.int .i64 fl,.int .i64 la,.int .i64 sc,.slice ps ns cs,.slice po no co] 25<|Rc (fun W'=>Av W' s pS pP)<|Bc gs #[.string s.name,.int .i64 s.eps,.int .i64 s.floor,.int .i64 s.last,.int .i64 s.scale,.slice pS s.segs.length capS,.slice pP s.opn.length capP] 25<|Bc W.heap.size #[.int .i64 340,.int .i64 0,.int .i64 0,.int .i64 0,.int .i64 0,.int .i64 0,.int .i64 0,.int .i64 0,.int .i64 0] 67<|Bz) ?_ (hR:=(Bc.mk (by exact Ab)<|Rc.mk (by first|exact b2|exact b2.below (by assumption)|exact b2.below Aa)<|Bc.mk (by exact Ab)<|Bc.mk (by exact Ab)<|trivial))
    clear b1 b2 b3
    rintro hW z43 ⟨⟨b1,yb1,k1,f1⟩,b2,⟨b3,yb3,k3,f3⟩,⟨b4,yb4,k4,f4⟩,-⟩
    clear hb41
    rw[hkn.out]
    go_wp2_with fail
    refine(cZ.out _ pS capS pP capP b2).mono ?_
    rintro e w44 ⟨rfl,hb44⟩
    have z45:=hb44.size
    try simp at z45
    clear k1 f1 k3 f3 k4 f4
    refine Ae W w44 (Bc w.heap.size #[.string nm,.int .i64 ep,.int .i64 fl,.int .i64 la,.int .i64 sc,.slice ps ns cs,.slice po no co] 25<|Rc (fun W'=>Av W' s pS pP)<|Bc gs #[.string s.name,.int .i64 s.eps,.int .i64 s.floor,.int .i64 s.last,.int .i64 s.scale,.slice pS s.segs.length capS,.slice pP s.opn.length capP] 25<|Bc W.heap.size #[.int .i64 340,.int .i64 0,.int .i64 0,.int .i64 0,.int .i64 0,.int .i64 0,.int .i64 0,.int .i64 0,.int .i64 0] 67<|Bz) ?_ (hR:=(Bc.mk (by exact Ab)<|Rc.mk (by first|exact b2|exact b2.below (by assumption)|exact b2.below Aa)<|Bc.mk (by exact Ab)<|Bc.mk (by exact Ab)<|trivial))
    clear b1 b2 b3 b4 hW
    rintro hW z46 ⟨⟨b1,yb1,k1,f1⟩,b2,⟨b3,yb3,k3,f3⟩,⟨b4,yb4,k4,f4⟩,-⟩
    clear hb44
    go_upto_region 13 with(fail)
    clear k1 f1 k3 f3 k4 f4
    obtain⟨V9,hV9,n1,n2,n3⟩:=nine_sets er n x y m0 m1 m2 m3 m4 b4
    rw[hV9]
    clear hV9
    replace b1:=n2 _ _ _ (by omega) b1
    replace b3:=n2 _ _ _ (by omega) b3
    have b4':=n1
    replace hW:=n3 _ _ (Nat.le_refl _) hW
    replace b2:=hin9.below hW
    clear b4 n1 n2 n3
    have b4:=b4'
    clear b4'
    refine Ad W (Bc w.heap.size #[.string nm,.int .i64 ep,.int .i64 fl,.int .i64 la,.int .i64 sc,.slice ps ns cs,.slice po no co] 25<|Rc (fun W'=>Av W' s pS pP)<|Bc gs #[.string s.name,.int .i64 s.eps,.int .i64 s.floor,.int .i64 s.last,.int .i64 s.scale,.slice pS s.segs.length capS,.slice pP s.opn.length capP] 25<|Bc W.heap.size #[.int .i64 er,.int .i64 n,.int .i64 x,.int .i64 y,.int .i64 m0,.int .i64 m1,.int .i64 m2,.int .i64 m3,.int .i64 m4] 67<|Bz) ?_ (hI:=by exact Aa) (hR:=(Bc.mk (by exact Ab)<|Rc.mk (by first|exact b2|exact b2.below (by assumption)|exact b2.below Aa)<|Bc.mk (by exact Ab)<|Bc.mk (by exact Ab)<|trivial))
    clear b1 b2 b3 b4 hW
    rintro W47 hW z48 hL
    obtain⟨⟨b1,yb1,k1,f1⟩,b2,⟨b3,yb3,k3,f3⟩,⟨b4,yb4,k4,f4⟩,-⟩:=id hL
    clear k1 f1 k3 f3 k4 f4
    refine C2 7 76 hW hL ?_
    iterate 4 refine dA ?_
    refine cA (fun W' hC=>cB.out W' pS capS pP capP hC.2.2.1) ?_
    iterate 2 refine dA ?_
    clear hW hL b1 b2 b3 b4
    rintro W49 hW z50 hL
    simp only[ndR]
    intros
    simp only[ndS]
    refine wpList_nil ?_
    obtain⟨⟨b1,yb1,k1,f1⟩,b2,⟨b3,yb3,k3,f3⟩,⟨b4,yb4,k4,f4⟩,-⟩:=hL
    go_wp2
    refine⟨?_,by simp[Ak];omega⟩
    unfold Xa
    exact⟨hW0.trans (hW.mono hz),b1,b2,b3,z+1,Ac rfl,by omega,by omega⟩
   ·obtain⟨rfl,rfl,rfl,rfl,rfl,rfl,rfl,rfl,rfl⟩:=k2' hq hk
    have hkn:=Hd (show (decide (1<=z)&&decide (z<=5))=false by
     by_cases h1:1<=z
     ·rw[decide_eq_false (p:=z<=5) (by omega),Bool.and_false]
     ·rw[decide_eq_false h1,Bool.false_and])
    replace cB:=Hd cB
    clear cZ k340 k2' hq hk
    have hin9:=b2
    have k1:=b1.cell
    have f1:=b1.frozen
    have k3:=b3.cell
    have f3:=b3.frozen
    go_wp2_with fail
    refine(Rb z _).mono ?_
    rintro e w41 ⟨rfl,hb41⟩
    have z42:=hb41.size
    try simp at z42
    clear k1 f1 k3 f3
    refine Ae W w41 (Bc w.heap.size #[.string nm,.int .i64 ep,.int .i64 fl,.int .i64 la,.int .i64 sc,.slice ps ns cs,.slice po no co] 25<|Rc (fun W'=>Av W' s pS pP)<|Bc gs #[.string s.name,.int .i64 s.eps,.int .i64 s.floor,.int .i64 s.last,.int .i64 s.scale,.slice pS s.segs.length capS,.slice pP s.opn.length capP] 25<|Bc W.heap.size #[.int .i64 340,.int .i64 0,.int .i64 0,.int .i64 0,.int .i64 0,.int .i64 0,.int .i64 0,.int .i64 0,.int .i64 0] 67<|Bz) ?_ (hR:=(Bc.mk (by exact Ab)<|Rc.mk (by first|exact b2|exact b2.below (by assumption)|exact b2.below Aa)<|Bc.mk (by exact Ab)<|Bc.mk (by exact Ab)<|trivial))
    clear b1 b2 b3
    rintro hW z43 ⟨⟨b1,yb1,k1,f1⟩,b2,⟨b3,yb3,k3,f3⟩,⟨b4,yb4,k4,f4⟩,-⟩
    clear hb41
    rw[hkn.out]
    go_upto_region 13 with(fail)
    clear k1 f1 k3 f3 k4 f4
    obtain⟨V9,hV9,n1,n2,n3⟩:=one_set 2 b4
    rw[hV9]
    clear hV9
    replace b1:=n2 _ _ _ (by omega) b1
    replace b3:=n2 _ _ _ (by omega) b3
    have b4':=n1
    replace hW:=n3 _ _ (Nat.le_refl _) hW
    replace b2:=hin9.below hW
    clear b4 n1 n2 n3
    have b4:=b4'
    clear b4'
    refine Ad W (Bc w.heap.size #[.string nm,.int .i64 ep,.int .i64 fl,.int .i64 la,.int .i64 sc,.slice ps ns cs,.slice po no co] 25<|Rc (fun W'=>Av W' s pS pP)<|Bc gs #[.string s.name,.int .i64 s.eps,.int .i64 s.floor,.int .i64 s.last,.int .i64 s.scale,.slice pS s.segs.length capS,.slice pP s.opn.length capP] 25<|Bc W.heap.size #[.int .i64 2,.int .i64 0,.int .i64 0,.int .i64 0,.int .i64 0,.int .i64 0,.int .i64 0,.int .i64 0,.int .i64 0] 67<|Bz) ?_ (hI:=by exact Aa) (hR:=(Bc.mk (by exact Ab)<|Rc.mk (by first|exact b2|exact b2.below (by assumption)|exact b2.below Aa)<|Bc.mk (by exact Ab)<|Bc.mk (by exact Ab)<|trivial))
    clear b1 b2 b3 b4 hW
    rintro W44 hW z45 hL
    obtain⟨⟨b1,yb1,k1,f1⟩,b2,⟨b3,yb3,k3,f3⟩,⟨b4,yb4,k4,f4⟩,-⟩:=id hL
    clear k1 f1 k3 f3 k4 f4
    refine C2 7 76 hW hL ?_
    iterate 4 refine dA ?_
    refine cA (fun W' hC=>cB.out W' pS capS pP capP hC.2.2.1) ?_
    iterate 2 refine dA ?_
    clear hW hL b1 b2 b3 b4
    rintro W46 hW z47 hL
    simp only[ndR]
    intros
    simp only[ndS]
    refine wpList_nil ?_
    obtain⟨⟨b1,yb1,k1,f1⟩,b2,⟨b3,yb3,k3,f3⟩,⟨b4,yb4,k4,f4⟩,-⟩:=hL
    go_wp2
    refine⟨?_,by simp[Ak];omega⟩
    unfold Xa
    exact⟨hW0.trans (hW.mono hz),b1,b2,b3,z+1,Ac rfl,by omega,by omega⟩
 ·obtain rfl:z=8:=by omega
  have k1:=b1.cell
  have f1:=b1.frozen
  have k3:=b3.cell
  have f3:=b3.frozen
  go_wp2_with fail
  refine(cL.out _ pS capS pP capP b2).mono ?_
  rintro e w41 ⟨pl,jl,rfl,hL,hb41⟩
  have z42:=hb41.size
  try simp at z42
  clear k1 f1 k3 f3
  refine Ae W w41 (Bc w.heap.size #[.string nm,.int .i64 ep,.int .i64 fl,.int .i64 la,.int .i64 sc,.slice ps ns cs,.slice po no co] 25<|Rc (fun W'=>Av W' s pS pP)<|Bc gs #[.string s.name,.int .i64 s.eps,.int .i64 s.floor,.int .i64 s.last,.int .i64 s.scale,.slice pS s.segs.length capS,.slice pP s.opn.length capP] 25<|Bz) ?_ (hR:=(Bc.mk (by exact Ab)<|Rc.mk (by first|exact b2|exact b2.below (by assumption)|exact b2.below Aa)<|Bc.mk (by exact Ab)<|trivial))
  clear b1 b2 b3
  rintro hW z43 ⟨⟨b1,yb1,k1,f1⟩,b2,⟨b3,yb3,k3,f3⟩,-⟩
  have b4:=hL
  clear hL
  rcases hcase.out with⟨rfl,rfl,rfl⟩|⟨rfl,rfl⟩
  ·
   go_wp2
   refine bodyPost_ret (v:= .bool true) (by simp[results,Tryz.results6,go_sem,k1,f1,k3,f3,yb1,yb3]) rfl ⟨rfl,hW0.trans (hW.mono hz)⟩
  ·
   go_upto_region 18 with(fail)
   clear k1 f1 k3 f3
   refine Ad W (Bc w.heap.size #[.string nm,.int .i64 ep,.int .i64 fl,.int .i64 la,.int .i64 sc,.slice ps ns cs,.slice po no co] 25<|Rc (fun W'=>Av W' s pS pP)<|Bc gs #[.string s.name,.int .i64 s.eps,.int .i64 s.floor,.int .i64 s.last,.int .i64 s.scale,.slice pS s.segs.length capS,.slice pP s.opn.length capP] 25<|Rc (fun W'=>Ai W' pl L)<|Bz) ?_ (hI:=by exact Aa) (hR:=(Bc.mk (by exact Ab)<|Rc.mk (by first|exact b2|exact b2.below (by assumption)|exact b2.below Aa)<|Bc.mk (by exact Ab)<|Rc.mk (by first|exact b4|exact b4.below (by assumption)|exact b4.below Aa)<|trivial))
   clear b1 b2 b3 b4 hW
   rintro W44 hW z45 hL
   obtain⟨⟨b1,yb1,k1,f1⟩,b2,⟨b3,yb3,k3,f3⟩,b4,-⟩:=id hL
   clear k1 f1 k3 f3
   refine Br 17 76 hW hL ?_
   iterate 3 refine dA ?_
   iterate 4 refine gA ?_
   apply G8 (Ut L n) (hg:=rfl) (hd:=rfl) (hal:=rfl)
   ·exact Ut.closed _ _
   ·intro v W' h
    simp at h
    exact h
   ·intro a' W' hC hE
    obtain⟨_,⟨-,-,k1,-⟩,k2,⟨-,-,k3,-⟩,k4,-⟩:=hC
    simp[Oper.looksAt,Op.operands,Call.operands,Aj,Det,Ao] at hE
    refine⟨_,_,?_,(cU.out (by trivial) W' pS capS pP capP k2).mono ?_⟩
    ·simp[go_sem,Act.eval,hE]
     try rfl
    ·rintro e w' ⟨p,j,rfl,hA,hB⟩
     exact⟨_,rfl,hB,p,j,rfl,hA⟩
   apply G8 (Det (.bool true)) (hg:=rfl) (hd:=rfl) (hal:=rfl)
   ·exact Ev _ _
   ·intro v W' h
    simp at h
    exact h
   ·intro a' W' hC hE
    obtain⟨_,⟨-,-,k1,-⟩,k2,⟨-,-,k3,-⟩,k4,-⟩:=hC
    simp[Oper.looksAt,Op.operands,Call.operands,Aj,Det,Ao] at hE
    obtain⟨p9,c9,e9,h9⟩:=hE.2.1
    refine⟨_,_,?_,(cE.out W' pl jl p9 c9 k4 h9).mono ?_⟩
    ·simp[go_sem,Act.eval,hE.1,hE.2.2,e9]
     try rfl
    ·rintro e w' ⟨rfl,hB⟩
     exact⟨_,rfl,hB,rfl⟩
   refine pA ?_
   refine dA ?_
   iterate 2 refine gA ?_
   apply G8 (SerSp s) (hg:=rfl) (hd:=rfl) (hal:=rfl)
   ·exact SerSp.closed _
   ·intro v W' h
    simp at h
    exact h
   ·intro a' W' hC hE
    have h9:=hW0.trans ((hW.trans (hC.1.of_priv hW.size)).mono hz)
    obtain⟨_,⟨-,-,k1,-⟩,k2,⟨-,-,k3,-⟩,k4,-⟩:=hC
    simp[Oper.looksAt,Op.operands,Call.operands,Aj,Det,Ao] at hE
    refine⟨_,_,?_,(c2.out W' h9).mono ?_⟩
    ·simp[go_sem,Act.eval,hE]
     try rfl
    ·rintro e w' ⟨p,j,p',j',rfl,hB,hA⟩
     exact⟨_,rfl,hB,p,j,p',j',rfl,hA⟩
   apply G8 (Det (.bool true)) (hg:=rfl) (hd:=rfl) (hal:=rfl)
   ·exact Ev _ _
   ·intro v W' h
    simp at h
    exact h
   ·intro a' W' hC hE
    obtain⟨_,⟨-,-,k1,-⟩,k2,⟨-,-,k3,-⟩,k4,-⟩:=hC
    simp[Oper.looksAt,Op.operands,Call.operands,Aj,Det,Ao] at hE
    obtain⟨p2,c2',p3,c3',e9,h9⟩:=hE.2.1
    refine⟨_,_,?_,(cS.out W' pS capS pP capP p2 c2' p3 c3' k2 h9).mono ?_⟩
    ·simp[go_sem,Act.eval,hE.1,hE.2.2,e9]
     try rfl
    ·rintro e w' ⟨rfl,hB⟩
     exact⟨_,rfl,hB,rfl⟩
   refine pA ?_
   refine dA ?_
   clear hW hL b1 b2 b3 b4
   rintro W46 hW z47 hL
   simp only[ndR]
   intros
   repeat (rename Ao _ _ _ _=>hgd;clear hgd)
   simp only[ndS]
   refine wpList_nil ?_
   obtain⟨⟨b1,yb1,k1,f1⟩,b2,⟨b3,yb3,k3,f3⟩,b4,-⟩:=hL
   go_wp2
   refine bodyPost_ret (v:= .bool true) (by simp[results,Tryz.results6,go_sem,k1,f1,k3,f3,yb1,yb3]) rfl ⟨rfl,hW0.trans (hW.mono hz)⟩
end Go.Proofs.YtidfcoooccblaaaGreat
namespace Go.Proofs.YtidfcoooccblaaaGreat
open Go.RowKit
theorem one_ser {w:World} {x:A4} {p q:Option Addr} {cap vc g:Nat} {t:TypeId} {nm:ByteArray} {ep fl la sc:Int} (h:C7 w x p q) (hv:x.raw.length<=vc) (hb:Blk w g (Dh x p q cap vc) t):Av w ⟨nm,ep,fl,la,sc,[x],[]⟩ (some ⟨g,0,none⟩) none:=by
 refine⟨⟨fun i s hs=> ?_⟩,⟨fun i r hr=>by simp at hr⟩,by simp,by simp⟩
 have hi:i=0:=by
  have:=(List.getElem?_eq_some_iff.1 hs).1
  simp at this
  exact this
 subst hi
 obtain rfl:x=s:=by simpa using hs
 refine⟨g,0,p,q,cap,vc,rfl,fun j v hj=> ?_,h,hv⟩
 rw[show 0+0*8+j=j by omega,hb.cell]
 exact hj
theorem Qj (fl a b t:Int) (y:Int):Fz (mx a fl) b (t,y)=Me fl a b t:=by
 rw[X0]
 unfold Me
 rw[Bool.eq_iff_iff]
 simp only[Bool.and_eq_true,decide_eq_true_eq]
 try omega
theorem Ub (fl a b:Int):∀l:List (Int×Int),(l.filter (Fz (mx a fl) b)).length=E8 fl a b (l.map (·.1))
 | []=>rfl
 |(t,y)::l=>by
  have h:=Ub fl a b l
  unfold E8 at h⊢
  simp only[List.filter_cons,List.map_cons,Qj]
  split<;>simp[h]
theorem told_seg1 (s:Be) (x:A4) (a b:Int) (hx:(Dr x).map (·.1)=Af x.runs):(Ej ⟨s.name,s.eps,s.floor,s.last,s.scale,[x],[]⟩ a b).length=E8 s.floor a b (Af x.runs):=by
 unfold Ej
 simp only[List.flatMap_cons,List.flatMap_nil,List.append_nil]
 unfold R4 Sc
 simp only[List.filter_nil,List.map_nil,List.append_nil,List.length_map]
 rw[Ub,hx]
theorem no_segs {w W:World} {s:Be} {ps po:Option Addr} (h:Av w s ps po) (hb:Below w.heap.size w W):Av W ⟨s.name,s.eps,s.floor,s.last,s.scale,[],s.opn⟩ none po:=⟨⟨fun i r hr=>by simp at hr⟩,(h.below hb).opn,by simp,h.fewO⟩
theorem O1 (fl a b:Int):∀l:List (Int×Int),E8 fl a b (l.map (·.1))≠0->∃q,l[(l.map (·.1)).findIdx (Me fl a b)]? =some q/\(l.filter (Fz (mx a fl) b))[0]? =some q
 | [],h=>absurd rfl h
 |(t,y)::l,h=>by
  by_cases hs:Me fl a b t=true
  ·exact⟨(t,y),by simp[List.findIdx_cons,hs],by simp[List.filter_cons,Qj,hs]⟩
  ·have h':E8 fl a b (l.map (·.1))≠0:=by unfold E8 at h⊢;simpa [List.filter_cons,hs] using h
   obtain⟨q,h1,h2⟩:=O1 fl a b l h'
   exact⟨q,by simp[List.findIdx_cons,hs];simpa using h1,by simp[List.filter_cons,Qj,hs];simpa using h2⟩
theorem Ve :∀(l:List Int) (b:Int),Dy b l=true->∀x,x∈l->b<x
 | [],_,_,_,h=>by cases h
 |t::l,b,h,x,hx=>by
  simp only[Dy,Bool.and_eq_true,decide_eq_true_eq] at h
  rcases List.mem_cons.1 hx with rfl|hx
  ·exact h.1
  ·have:=Ve l t h.2 x hx
   omega
theorem R8 :∀(m l:List Int) (b:Int),Dy b (m++l)=true->∃b',Dy b' l=true
 | [],_,b,h=>⟨b,h⟩
 |t::m,l,b,h=>by
  simp only[List.cons_append,Dy,Bool.and_eq_true] at h
  exact R8 m l t h.2
theorem R7 :∀(l:List Int) (b:Int),Dy b l=true->∀(i j:Nat) (x:Int),l[i]? =some x->l[j]? =some x->i=j
 | [],_,_,i,_,_,h,_=>by simp at h
 |t::l,b,h,i,j,x,h1,h2=>by
  simp only[Dy,Bool.and_eq_true] at h
  have hl:=Ve l t h.2
  cases i with
  |zero=>
   cases j with
   |zero=>rfl
   |succ j=>
    simp at h1 h2
    subst h1
    have:=hl t (List.mem_of_getElem? h2)
    omega
  |succ i=>
   cases j with
   |zero=>
    simp at h1 h2
    subst h2
    have:=hl t (List.mem_of_getElem? h1)
    omega
   |succ j=>
    simp at h1 h2
    rw[R7 l t h.2 i j x h1 h2]
def opI (n f i:Nat):List Ah:=if n=0 then [] else if f<i then [⟨3,(f:Int),(n:Int)⟩] else []
theorem X7 {W w1:World} {o:Obj} {B n rb ro:Nat} {e:TypeId} {v:Value} {xs:List Value} {l:List Ah} (h:Ai W (some ⟨rb,ro,none⟩) l) (hne:v.ownBlock≠some rb) (_:W.ownsRow B e 3 v n xs) (hgr:(W.alloc o).grownBy w1 v.ownBlock):Ai w1 (some ⟨rb,ro,none⟩) l:=⟨fun i r hr=>by
 obtain⟨b,y,e,h1,h2,h3⟩:=h.at' i r hr
 cases e
 have k:∀j u,W.cell? ⟨rb,j,none⟩=some u->(W.alloc o).cell? ⟨rb,j,none⟩=some u:=fun j u hu=>(((Below.refl W.heap.size W).alloc (Nat.le_refl _) o).cell (p:=⟨rb,j,none⟩) (A8 hu)).trans hu
 exact⟨rb,ro,rfl,hgr.cell (k _ _ h1) (fun e=>hne e.symm),hgr.cell (k _ _ h2) (fun e=>hne e.symm),hgr.cell (k _ _ h3) (fun e=>hne e.symm)⟩⟩
theorem Ou (s:Be) (a b:Int):∀k,(Dz s a b k).length<=k
 |0=>by simp[Dz]
 |k+1=>by
  have h:=Ou s a b k
  have e:Dz s a b (k+1)=Dz s a b k++Qn s a b k:=by unfold Dz;rw[List.range_succ,List.flatMap_append,List.flatMap_cons,List.flatMap_nil,List.append_nil]
  have h2:(Qn s a b k).length<=1:=by
   unfold Qn
   split
   ·unfold Kx;split<;>simp
   ·simp
  rw[e,List.length_append]
  omega
def Nq (w:World) (s:Be) (ps:Option Addr) (cs:Nat) (po:Option Addr) (co:Nat) (a b:Int) (a':Act) (W:World):Prop:=
 Below w.heap.size w W/\Blk W w.heap.size #[.string s.name,.int .i64 s.eps,.int .i64 s.floor,.int .i64 s.last,.int .i64 s.scale,.slice ps s.segs.length cs,.slice po s.opn.length co] 25/\∃(k:Nat) (v:Value),(∃u:Nat->Value,a'= {tmps:= #[.agg #[.string s.name,.int .i64 s.eps,.int .i64 s.floor,.int .i64 s.last,.int .i64 s.scale,.slice ps s.segs.length cs,.slice po s.opn.length co],.int .i64 a,.int .i64 b,.pointer (some ⟨w.heap.size,0,none⟩),u 4,u 5,u 6,v,u 8,u 9,u 10,u 11,u 12,u 13,u 14,u 15,u 16,.slice ps s.segs.length cs,.int .i64 (s.segs.length:Int),.int .i64 (k:Int),u 20,u 21,u 22,u 23,u 24,u 25,u 26,u 27,u 28,u 29,u 30,u 31,u 32,u 33,u 34,u 35,u 36,u 37,u 38,u 39,u 40,u 41,u 42,u 43,u 44,u 45,u 46,u 47,u 48,u 49,u 50,u 51,u 52,u 53,u 54,u 55,u 56,u 57,u 58,u 59,u 60,u 61,u 62,u 63,u 64,u 65,u 66,u 67,u 68,u 69,u 70,u 71,u 72,u 73,u 74,u 75,u 76,u 77,u 78,u 79,u 80,u 81,u 82,u 83,u 84,u 85,u 86,u 87,u 88,u 89],defers:= []})/\Bp W w.heap.size 75 3 v (Dz s a b k).length (As (Dz s a b k))/\k<=s.segs.length
def Np (w:World) (s:Be) (ps:Option Addr) (cs:Nat) (po:Option Addr) (co:Nat) (a b:Int) (p:Option Addr) (n c:Nat) (R2 K0:List Ah) (fi:Nat) (a':Act) (W:World):Prop:=
 Below w.heap.size w W/\Blk W w.heap.size #[.string s.name,.int .i64 s.eps,.int .i64 s.floor,.int .i64 s.last,.int .i64 s.scale,.slice ps s.segs.length cs,.slice po s.opn.length co] 25/\Ai W p R2/\∃(i:Nat) (v:Value),(∀g x,p=some ⟨g,x,none⟩->v.ownBlock≠some g)/\(∃u:Nat->Value,a'= {tmps:= #[.agg #[.string s.name,.int .i64 s.eps,.int .i64 s.floor,.int .i64 s.last,.int .i64 s.scale,.slice ps s.segs.length cs,.slice po s.opn.length co],.int .i64 a,.int .i64 b,.pointer (some ⟨w.heap.size,0,none⟩),u 4,u 5,u 6,v,u 8,u 9,u 10,u 11,u 12,.slice p n c,u 14,u 15,u 16,u 17,u 18,u 19,u 20,u 21,u 22,u 23,u 24,u 25,u 26,u 27,u 28,u 29,u 30,u 31,u 32,u 33,u 34,u 35,u 36,u 37,u 38,u 39,u 40,u 41,u 42,u 43,u 44,u 45,u 46,u 47,u 48,u 49,u 50,u 51,u 52,u 53,u 54,u 55,u 56,u 57,u 58,u 59,u 60,u 61,.slice po s.opn.length co,.int .i64 (s.opn.length:Int),.int .i64 (i:Int),u 65,u 66,u 67,u 68,u 69,u 70,u 71,u 72,u 73,u 74,u 75,u 76,u 77,u 78,u 79,u 80,u 81,u 82,u 83,u 84,u 85,u 86,u 87,u 88,u 89],defers:= []})/\Bp W w.heap.size 75 3 v (K0++opI n fi i).length (As (K0++opI n fi i))/\i<=s.opn.length
theorem c_r26Plan (s:Be) (ps:Option Addr) (cs:Nat) (po:Option Addr) (co:Nat) (a b:Int) (w:World) (hin:Av w s ps po) (hc:Bn s=true):
  Calls Tryz.prog 36 #[.agg (Cg s ps cs po co),.int .i64 a,.int .i64 b] w fun e w'=>∃p j,e= .returned (.slice p (Eg s a b).length j)/\Ai w' p (Eg s a b)/\Below w.heap.size w w':=by
 obtain⟨i0,hi,hz0,hz1,hz2⟩:=info_parts Tryz.infoPiece
 have hfS:=hin.fewS
 have hfO:=hin.fewO
 have hv:=Ld hc
 unfold Cg
 go_enter Tryz.func36,Tryz.ntmps36
 go_wp2
 refine wp_loop (Nq w s ps cs po co a b) (fun a' _=>s.segs.length-(Ak (a'.tmps.getD 19 undef)).toNat) ?_ ?_
 ·unfold Nq
  exact⟨Aa,by exact Ab,0,_,Ac rfl,Bp.nil _ _ _ _,by omega⟩
 rintro a' W ⟨hW0,b1,k,v,⟨u,rfl⟩,hown,hk⟩
 have hz:=hW0.size
 have zb1:=b1.lt
 have hl9:=Ou s a b k
 rcases Nat.lt_or_ge k s.segs.length with hlk|hge
 ·obtain⟨x,tr⟩:∃r,s.segs[k]? =some r:=⟨s.segs[k]'(by omega),List.getElem?_eq_getElem (by omega)⟩
  have hsx:=hv x (List.mem_of_getElem? tr)
  obtain⟨bs,os,p',q',cps,vc,rfl,hs,hvc,q0,q1,q2,q3,q4,q5,q6,q7⟩:=(hin.below hW0).segs.one tr
  obtain⟨n,hn,hn9,-,cT⟩:=L8 x p' q' cps W hs hsx
  obtain⟨N,hN⟩:∃N,n+1=N:=⟨_,rfl⟩
  rw[hN] at cT hn
  have hN9:N<=301:=by omega
  replace cT:=Hd cT
  have zc:=A8 q0
  try simp only at zc
  obtain⟨c,hcc⟩:∃c,E8 s.floor a b (Af x.runs)=c:=⟨_,rfl⟩
  have hcl:c<=N:=by rw[<-hcc,<-hn];unfold E8;exact List.length_filter_le _ _
  have hln:=(told_seg1 s x a b (map_pts1 hsx)).trans hcc
  have cB:=Hd (fun(V:World) {g:Nat} (h:Av V ⟨s.name,s.eps,s.floor,s.last,s.scale,[x],[]⟩ (some ⟨g,0,none⟩) none)=>(show Calls Tryz.prog 21 #[.agg #[.string s.name,.int .i64 s.eps,.int .i64 s.floor,.int .i64 s.last,.int .i64 s.scale,.slice (some ⟨g,0,none⟩) 1 1,.slice none 0 0],.int .i64 a,.int .i64 b] V fun e w'=>∃p k,e= .returned (.slice p c k)/\Below V.heap.size V w' from by
   refine(Ot _ (some ⟨g,0,none⟩) 1 none 0 a b V h (fun y hy=>by rw[List.mem_singleton.1 hy];exact hsx)).mono ?_
   rintro e w' ⟨v,rfl,hO,hB⟩
   obtain⟨p,k,rfl,-⟩:=hO.form
   rw[hln]
   exact⟨p,k,rfl,hB⟩))
  have hways:=Hd (show (c=N/\Dz s a b (k+1)=Dz s a b k++ [⟨1,(k:Int),(c:Int)⟩])∨(c≠N/\0<c/\Dz s a b (k+1)=Dz s a b k++ [⟨2,(k:Int),(c:Int)⟩])∨(c≠N/\c=0/\Dz s a b (k+1)=Dz s a b k) by
   rw[Qm tr]
   unfold Kx
   rw[hcc,hn]
   by_cases h0:c=0
   ·refine .inr (.inr ⟨by omega,h0,?_⟩)
    rw[if_pos h0,List.append_nil]
   ·rw[if_neg h0]
    by_cases h1:c=N
    ·exact .inl ⟨h1,by rw[if_pos h1]⟩
    ·exact .inr (.inl ⟨h1,by omega,by rw[if_neg h1]⟩))
  clear hcc hln tr hn hsx hN hn9
  have k1:=b1.cell
  have f1:=b1.frozen
  go_upto_region 7 with(fail)
  clear k1 f1
  refine Ad W (Bc w.heap.size #[.string s.name,.int .i64 s.eps,.int .i64 s.floor,.int .i64 s.last,.int .i64 s.scale,.slice (some ⟨bs,os,none⟩) s.segs.length cs,.slice po s.opn.length co] 25<|Bc W.heap.size #[.int .i64 x.K,.slice p' x.runs.length cps,.int .i64 x.A,.int .i64 x.R,.int .i64 x.n,.int .i64 x.d,.slice q' x.raw.length vc,.int .i64 x.E] 98<|Bc (W.heap.size+1) #[.string s.name,.int .i64 s.eps,.int .i64 s.floor,.int .i64 s.last,.int .i64 s.scale,.slice (some ⟨W.heap.size+1+1,0,none⟩) 1 1,.slice none 0 0] 25<|Bc (W.heap.size+1+1) #[.int .i64 x.K,.slice p' x.runs.length cps,.int .i64 x.A,.int .i64 x.R,.int .i64 x.n,.int .i64 x.d,.slice q' x.raw.length vc,.int .i64 x.E] 98<|Bz) ?_
  clear b1
  rintro W21 hW z22 ⟨⟨b1,yb1,k1,f1⟩,⟨b2,yb2,k2,f2⟩,⟨b3,yb3,k3,f3⟩,⟨b4,yb4,k4,f4⟩,-⟩
  go_wp2_with fail
  refine(cB.out W21 (one_ser (hs.below hW) hvc b4)).mono ?_
  rintro e w23 ⟨pB,kB,rfl,hb23⟩
  have z24:=hb23.size
  try simp at z24
  clear k1 f1 k2 f2 k3 f3 k4 f4
  refine Ae W w23 (Bc w.heap.size #[.string s.name,.int .i64 s.eps,.int .i64 s.floor,.int .i64 s.last,.int .i64 s.scale,.slice (some ⟨bs,os,none⟩) s.segs.length cs,.slice po s.opn.length co] 25<|Bc W.heap.size #[.int .i64 x.K,.slice p' x.runs.length cps,.int .i64 x.A,.int .i64 x.R,.int .i64 x.n,.int .i64 x.d,.slice q' x.raw.length vc,.int .i64 x.E] 98<|Bc (W.heap.size+1) #[.string s.name,.int .i64 s.eps,.int .i64 s.floor,.int .i64 s.last,.int .i64 s.scale,.slice (some ⟨W.heap.size+1+1,0,none⟩) 1 1,.slice none 0 0] 25<|Bc (W.heap.size+1+1) #[.int .i64 x.K,.slice p' x.runs.length cps,.int .i64 x.A,.int .i64 x.R,.int .i64 x.n,.int .i64 x.d,.slice q' x.raw.length vc,.int .i64 x.E] 98<|Bz) ?_
  clear b1 b2 b3 b4 hW
  rintro hW z25 ⟨⟨b1,yb1,k1,f1⟩,⟨b2,yb2,k2,f2⟩,⟨b3,yb3,k3,f3⟩,⟨b4,yb4,k4,f4⟩,-⟩
  go_wp2_with fail
  refine(cT.out _ Aa).mono ?_
  rintro e w26 ⟨pT,kT,rfl,-,hb26⟩
  have z27:=hb26.size
  try simp at z27
  clear k1 f1 k2 f2 k3 f3 k4 f4
  refine Ae W w26 (Bc w.heap.size #[.string s.name,.int .i64 s.eps,.int .i64 s.floor,.int .i64 s.last,.int .i64 s.scale,.slice (some ⟨bs,os,none⟩) s.segs.length cs,.slice po s.opn.length co] 25<|Bc W.heap.size #[.int .i64 x.K,.slice p' x.runs.length cps,.int .i64 x.A,.int .i64 x.R,.int .i64 x.n,.int .i64 x.d,.slice q' x.raw.length vc,.int .i64 x.E] 98<|Bc (W.heap.size+1) #[.string s.name,.int .i64 s.eps,.int .i64 s.floor,.int .i64 s.last,.int .i64 s.scale,.slice (some ⟨W.heap.size+1+1,0,none⟩) 1 1,.slice none 0 0] 25<|Bc (W.heap.size+1+1) #[.int .i64 x.K,.slice p' x.runs.length cps,.int .i64 x.A,.int .i64 x.R,.int .i64 x.n,.int .i64 x.d,.slice q' x.raw.length vc,.int .i64 x.E] 98<|Bz) ?_
  clear b1 b2 b3 b4 hW
  rintro hW z28 ⟨⟨b1,yb1,k1,f1⟩,⟨b2,yb2,k2,f2⟩,⟨b3,yb3,k3,f3⟩,⟨b4,yb4,k4,f4⟩,-⟩
  have hV1:=hW0.trans (hW.mono hz)
  have hO:=hown.below hW
  clear hown hW cB cT b2 b3 b4 k2 k3 k4 f2 f3 f4
  have zz:=hV1.size
  rcases hways.out with⟨hc1,hst⟩|⟨hc1,hc2,hst⟩|⟨hc1,hc2,hst⟩
  ·subst hc1
   replace hst:=Hd hst
   go_wp2_with (at_builtin;refine wpList_append_own _ rfl (.tmp 40) (.tmp 44) 70 rfl w.heap.size 75 i0 (.agg #[.int .i64 0,.int .i64 0,.int .i64 0]) 3 24 (by kernel_rfl) hi hz0 hz1 hz2 rfl (by decide) _ _ _ rfl (hO.own.alloc _) ⟨w26.heap.size,0,none⟩ 1 1 [.int .i64 1,.int .i64 (k:Int),.int .i64 (c:Int)] rfl rfl (Dd _ _ _ _ _) (by simp[Value.oneCell']) (by simp only[maxLen];omega) (by omega) (by simp;omega) ?_)
   intro v' w9 hown2 hgr _
   have hB:=Hd (A5 hV1 zz hO.own hgr)
   have d1:=b1.grown hO.own (by decide) hgr
   replace hown2:=Hd hown2
   clear hgr hO b1 k1 f1
   go_wp2
   rw[show (k:Int)+1=((k+1:Nat):Int) by omega]
   refine⟨?_,by simp[Ak];omega⟩
   unfold Nq
   exact⟨hB.out,d1,k+1,v',Ac rfl,⟨Fi hown2.out (by rw[hst.out];simp) (by rw[hst.out,Dc])⟩,by omega⟩
  ·replace hst:=Hd hst
   go_wp2_with (at_builtin;refine wpList_append_own _ rfl (.tmp 48) (.tmp 52) 70 rfl w.heap.size 75 i0 (.agg #[.int .i64 0,.int .i64 0,.int .i64 0]) 3 24 (by kernel_rfl) hi hz0 hz1 hz2 rfl (by decide) _ _ _ rfl (hO.own.alloc _) ⟨w26.heap.size,0,none⟩ 1 1 [.int .i64 2,.int .i64 (k:Int),.int .i64 (c:Int)] rfl rfl (Dd _ _ _ _ _) (by simp[Value.oneCell']) (by simp only[maxLen];omega) (by omega) (by simp;omega) ?_)
   intro v' w9 hown2 hgr _
   have hB:=Hd (A5 hV1 zz hO.own hgr)
   have d1:=b1.grown hO.own (by decide) hgr
   replace hown2:=Hd hown2
   clear hgr hO b1 k1 f1
   go_wp2
   rw[show (k:Int)+1=((k+1:Nat):Int) by omega]
   refine⟨?_,by simp[Ak];omega⟩
   unfold Nq
   exact⟨hB.out,d1,k+1,v',Ac rfl,⟨Fi hown2.out (by rw[hst.out];simp) (by rw[hst.out,Dc])⟩,by omega⟩
  ·replace hst:=Hd hst
   go_wp2
   rw[show (k:Int)+1=((k+1:Nat):Int) by omega]
   refine⟨?_,by simp[Ak];omega⟩
   unfold Nq
   exact⟨hV1,b1,k+1,v,Ac rfl,by rw[hst.out];exact hO,by omega⟩
 ·obtain rfl:k=s.segs.length:=by omega
  obtain⟨n,hn⟩:∃n,E8 s.floor a b (s.opn.map (·.1))=n:=⟨_,rfl⟩
  obtain⟨fi,hfi⟩:∃f,My s.floor a b (s.opn.map (·.1))=f:=⟨_,rfl⟩
  obtain⟨K0,hK0⟩:∃K,Dz s a b s.segs.length=K:=⟨_,rfl⟩
  rw[hK0] at hown hl9
  have hres:=Hd (show Eg s a b=K0++opI n fi s.opn.length by
   unfold Eg Nm opI
   rw[hK0,hn,hfi]
   by_cases h0:n=0
   ·rw[if_pos h0,if_pos h0]
   ·rw[if_neg h0,if_neg h0,if_pos]
    rw[<-hn] at h0
    rw[<-hfi]
    unfold My
    rw[if_neg h0]
    obtain⟨q,h1,-⟩:=O1 s.floor a b s.opn h0
    exact(List.getElem?_eq_some_iff.1 h1).1)
  have hone:∀(i j:Nat) (x:Int),(s.opn.map (·.1))[i]? =some x->(s.opn.map (·.1))[j]? =some x->i=j:=by
   have h:=hc
   unfold Bn at h
   simp only[Bool.and_eq_true] at h
   obtain⟨b',hb'⟩:=R8 _ _ _ h.2.2.2.2.2.1
   exact R7 _ _ hb'
  obtain⟨R2,hR2⟩:∃R,(Ej ⟨s.name,s.eps,s.floor,s.last,s.scale,[],s.opn⟩ a b).map bkT=R:=⟨_,rfl⟩
  have hln2:(Ej ⟨s.name,s.eps,s.floor,s.last,s.scale,[],s.opn⟩ a b).length=n:=by
   rw[<-hn,<-Ub]
   unfold Ej Sc
   simp
  have hfirst:n≠0->∃tf yf,s.opn[fi]? =some (tf,yf)/\R2[0]? =some ⟨tf,yf,0⟩:=by
   intro h0
   rw[<-hn] at h0
   obtain⟨⟨tf,yf⟩,h1,h2⟩:=O1 s.floor a b s.opn h0
   refine⟨tf,yf,?_,?_⟩
   ·rw[<-hfi]
    unfold My
    rw[if_neg h0]
    exact h1
   ·rw[<-hR2]
    unfold Ej Sc
    simp only[List.flatMap_nil,List.nil_append,List.getElem?_map,h2]
    rfl
  have cB:=Hd (fun(V:World) (h:Av V ⟨s.name,s.eps,s.floor,s.last,s.scale,[],s.opn⟩ none po)=>(show Calls Tryz.prog 21 #[.agg #[.string s.name,.int .i64 s.eps,.int .i64 s.floor,.int .i64 s.last,.int .i64 s.scale,.slice none 0 0,.slice po s.opn.length co],.int .i64 a,.int .i64 b] V fun e w'=>∃p k,e= .returned (.slice p n k)/\Ai w' p R2/\(∀a9:Addr,p=some a9->V.heap.size<=a9.block)/\Below V.heap.size V w' from by
   refine(Ot _ none 0 po co a b V h (fun y hy=>by cases hy)).mono ?_
   rintro e w' ⟨v,rfl,hO,hB⟩
   obtain⟨p,k,rfl,-,-,-,h5⟩:=hO.form
   rw[<-hln2,<-hR2]
   exact⟨p,k,rfl,hO.runs,fun a9 e=>(h5 a9 e).2,hB⟩))
  have hnn:n<=100:=by
   have h:E8 s.floor a b (s.opn.map (·.1))<=(s.opn.map (·.1)).length:=List.length_filter_le _ _
   rw[List.length_map,hn] at h
   omega
  clear hn hfi hK0 hR2 hln2
  replace hone:=Hd hone
  replace hfirst:=Hd hfirst
  have k1:=b1.cell
  have f1:=b1.frozen
  go_upto_region 15 with(fail)
  clear k1 f1
  refine Ad W (Bc w.heap.size #[.string s.name,.int .i64 s.eps,.int .i64 s.floor,.int .i64 s.last,.int .i64 s.scale,.slice ps s.segs.length cs,.slice po s.opn.length co] 25<|Bc W.heap.size #[.string s.name,.int .i64 s.eps,.int .i64 s.floor,.int .i64 s.last,.int .i64 s.scale,.slice none 0 0,.slice po s.opn.length co] 25<|Bz) ?_
  clear b1
  rintro W21 hW z22 ⟨⟨b1,yb1,k1,f1⟩,⟨b2,yb2,k2,f2⟩,-⟩
  have hzc:=hW.size
  go_wp2_with fail
  refine(cB.out W21 (no_segs hin (hW0.trans (hW.mono hz)))).mono ?_
  rintro e w23 ⟨p,c,rfl,hR,hpf,hb23⟩
  have z24:=hb23.size
  try simp at z24
  clear k1 f1 k2 f2
  refine Ae W w23 (Bc w.heap.size #[.string s.name,.int .i64 s.eps,.int .i64 s.floor,.int .i64 s.last,.int .i64 s.scale,.slice ps s.segs.length cs,.slice po s.opn.length co] 25<|Bc W.heap.size #[.string s.name,.int .i64 s.eps,.int .i64 s.floor,.int .i64 s.last,.int .i64 s.scale,.slice none 0 0,.slice po s.opn.length co] 25<|Bz) ?_
  clear b1 b2 hW
  rintro hW z25 ⟨⟨b1,yb1,k1,f1⟩,⟨b2,yb2,k2,f2⟩,-⟩
  clear cB b2
  go_wp2
  refine wp_loop (Np w s ps cs po co a b p n c R2 K0 fi) (fun a' _=>s.opn.length-(Ak (a'.tmps.getD 64 undef)).toNat) ?_ ?_
  ·unfold Np
   exact⟨hW0.trans (hW.mono hz),b1,hR,0,v,fun g x e e2=>by have h1:=hpf _ e;have h2:=(hown.own.lt _ e2).2;simp only at h1;omega,Ac rfl,by rw[show opI n fi 0= [] by unfold opI;split<;>simp,List.append_nil];exact hown.below hW,by omega⟩
  clear b1 hW hR hown hpf hz zb1 hW0 hzc k1 f1 k2 f2
  rintro a' W ⟨hW0,b1,hR,i,v,hfar,⟨u,rfl⟩,hown,hi9⟩
  have hz:=hW0.size
  have zb1:=b1.lt
  have hl2:(K0++opI n fi i).length<=101:=by
   have:(opI n fi i).length<=1:=by
    unfold opI
    split
    ·simp
    ·split<;>simp
   rw[List.length_append]
   omega
  rcases Nat.lt_or_ge i s.opn.length with hlt|hge
  ·obtain⟨⟨t,y⟩,tr⟩:∃r,s.opn[i]? =some r:=⟨s.opn[i]'(by omega),List.getElem?_eq_getElem (by omega)⟩
   obtain⟨bo,oo,rfl,q0,q1⟩:=(hin.below hW0).opn.at' i _ tr
   simp only at q0 q1
   have zc:=A8 q0
   try simp only at zc
   by_cases h0:n=0
   ·obtain⟨G,hG0⟩:∃G,decide (0<n)=G:=⟨_,rfl⟩
    have hG:=Hd (show G=false by rw[<-hG0];exact decide_eq_false (by omega))
    have E0:=Hd hG0
    have hv:=Hd (show (G&&G)=false by rw[hG.out];rfl)
    have hst:=Hd (show K0++opI n fi (i+1)=K0++opI n fi i by unfold opI;rw[if_pos h0,if_pos h0])
    clear hG0 h0 tr
    have k1:=b1.cell
    have f1:=b1.frozen
    go_upto_region 19 with(fail)
    clear k1 f1
    refine Ad W (Bc w.heap.size #[.string s.name,.int .i64 s.eps,.int .i64 s.floor,.int .i64 s.last,.int .i64 s.scale,.slice ps s.segs.length cs,.slice (some ⟨bo,oo,none⟩) s.opn.length co] 25<|Bc W.heap.size #[.int .i64 t,.int .i64 y] 91<|Bz) ?_
    clear b1
    rintro W61 hW z62 hL
    obtain⟨⟨b1,yb1,k1,f1⟩,⟨b2,yb2,k2,f2⟩,-⟩:=id hL
    clear k1 f1 k2 f2
    refine C2 12 90 hW hL ?_
    iterate 4 refine dE (fun W' hC=>E0.out) ?_
    iterate 8
     first
     |(
      apply Am (p:=true) (x:=G) (c:=undef) (hg:=rfl) (hd:=rfl) (hal:=rfl)
      ·intro v W' h
       simp[Aj,Det,Ao] at h
       simp
       exact h
      ·intro hp hx
       rw[hG.out] at hx
       cases hx)
     |(
      apply Ch (x:=G) (y:=G) (ho:=rfl) (hg:=rfl)
      ·intro v W' h
       simp[Aj,Det] at h
       exact h
      ·intro v W' h hx
       rw[hG.out] at hx
       cases hx)
    clear hW hL b1 b2
    rintro W63 hW z64 hL
    simp only[ndR]
    intros
    repeat (rename Ao _ _ _ _=>hgd;clear hgd)
    simp only[ndS]
    refine wpList_nil ?_
    obtain⟨⟨b1,yb1,k1,f1⟩,⟨b2,yb2,k2,f2⟩,-⟩:=hL
    rw[hv.out]
    go_wp2
    rw[show (i:Int)+1=((i+1:Nat):Int) by omega]
    refine⟨?_,by simp[Ak];omega⟩
    unfold Np
    exact⟨hW0.trans (hW.mono hz),b1,hR.below hW,i+1,v,hfar,Ac rfl,by rw[hst.out];exact hown.below hW,by omega⟩
   ·obtain⟨tf,yf,ef,r0⟩:=hfirst.out h0
    obtain⟨rb,ro,rfl,-⟩:=hR.at' 0 _ r0
    have E0:=Hd (show decide (0<n)=true from decide_eq_true (by omega))
    have hpos:0<n:=by omega
    obtain⟨B,hB⟩:∃B,(t==tf)=B:=⟨_,rfl⟩
    replace r0:=Hd r0
    have e1:(s.opn.map (·.1))[i]? =some t:=by rw[List.getElem?_map,tr];rfl
    have e2:(s.opn.map (·.1))[fi]? =some tf:=by rw[List.getElem?_map,ef];rfl
    by_cases hif:i=fi
    ·have hv:=Hd (show B=true by rw[<-hB];rw[hif,e2] at e1;injection e1 with e1;rw[e1];simp)
     have hst:=Hd (show K0++opI n fi (i+1)=K0++opI n fi i++ [⟨3,(i:Int),(n:Int)⟩] by
      unfold opI
      rw[if_neg h0,if_neg h0,if_pos (by omega),if_neg (by omega),List.append_nil,hif])
     replace hB:=Hd hB
     clear e1 e2 ef tr hif h0
     have k1:=b1.cell
     have f1:=b1.frozen
     go_upto_region 19 with(fail)
     clear k1 f1
     refine Ad W (Bc w.heap.size #[.string s.name,.int .i64 s.eps,.int .i64 s.floor,.int .i64 s.last,.int .i64 s.scale,.slice ps s.segs.length cs,.slice (some ⟨bo,oo,none⟩) s.opn.length co] 25<|Bc W.heap.size #[.int .i64 t,.int .i64 y] 91<|Rc (fun W'=>Eb W' rb ro R2)<|Bz) ?_ (hI:=by exact Aa) (hR:=(Bc.mk (by exact Ab)<|Bc.mk (by exact Ab)<|Rc.mk (by first|exact⟨hR⟩|(exact(Eb.mk hR).below Aa))<|trivial))
     clear b1
     rintro W61 hW z62 hL
     obtain⟨⟨b1,yb1,k1,f1⟩,⟨b2,yb2,k2,f2⟩,b3,-⟩:=id hL
     clear k1 f1 k2 f2
     refine C2 12 90 hW hL ?_
     iterate 4 refine dE (fun W' hC=>aI (hC.2.2.2.1.cellAt r0.out) (aI E0.out (aI hB.out (aI hpos (Nat.not_le.2 hpos))))) ?_
     iterate 7 refine gE (fun W' hC=>aI (hC.2.2.2.1.cellAt r0.out) (aI E0.out (aI hB.out (aI hpos (Nat.not_le.2 hpos))))) ?_
     refine pA ?_
     clear hW hL b1 b2 b3
     rintro W63 hW z64 hL
     simp only[ndR]
     intros
     simp only[ndS]
     refine wpList_nil ?_
     obtain⟨⟨b1,yb1,k1,f1⟩,⟨b2,yb2,k2,f2⟩,b3,-⟩:=hL
     clear b3
     rw[hv.out]
     have hV1:=hW0.trans (hW.mono hz)
     have hO:=hown.below hW
     replace hR:=hR.below hW
     have hRg:=Hd hR
     clear hown hW b2 k2 f2
     have zz:=hV1.size
     go_wp2_with (at_builtin;refine C4 rfl (.tmp 81) (.tmp 86) 70 rfl w.heap.size 75 i0 (.agg #[.int .i64 0,.int .i64 0,.int .i64 0]) 3 24 (by kernel_rfl) hi hz0 hz1 hz2 rfl (by decide) _ _ _ rfl (hO.own.alloc _) ⟨W63.heap.size,0,none⟩ 1 1 [.int .i64 3,.int .i64 (i:Int),.int .i64 (n:Int)] rfl rfl (Dd _ _ _ _ _) (by simp[Value.oneCell']) (by simp only[maxLen];omega) (by omega) (by simp;omega) ?_)
     intro v' w9 hown2 hgr hfr
     have hB:=Hd (A5 hV1 zz hO.own hgr)
     have d1:=b1.grown hO.own (by decide) hgr
     replace hown2:=Hd hown2
     have hR2:=Hd (X7 hRg.out (hfar _ _ rfl) hO.own hgr)
     have hfar2:=Hd (show∀g x,some (⟨rb,ro,none⟩:Addr)=some ⟨g,x,none⟩->v'.ownBlock≠some g from fun g x e e2=>by
      rcases hfr with h|h
      ·exact hfar g x e (h.symm.trans e2)
      ·rw[h] at e2
       injection e2 with e2
       injection e with e
       injection e with e3 e4
       obtain⟨b9,o9,e9,c9,-⟩:=hRg.out.at' 0 _ r0.out
       injection e9 with e9
       injection e9 with e5 e6
       have h5:=A8 c9
       try simp at e2
       try simp at h5
       omega)
     clear hgr hO b1 k1 f1 hR hfr
     go_wp2
     rw[show (i:Int)+1=((i+1:Nat):Int) by omega]
     refine⟨?_,by simp[Ak];omega⟩
     unfold Np
     exact⟨hB.out,d1,hR2.out,i+1,v',hfar2.out,Ac rfl,⟨Fi hown2.out (by rw[hst.out];simp;omega) (by rw[hst.out,Dc])⟩,by omega⟩
    ·have hv:=Hd (show B=false by
      rw[<-hB]
      apply Bool.eq_false_iff.2
      intro h
      have h:=beq_iff_eq.1 h
      rw[h] at e1
      exact hif (hone.out _ _ _ e1 e2))
     have hst:=Hd (show K0++opI n fi (i+1)=K0++opI n fi i by
      unfold opI
      rw[if_neg h0,if_neg h0]
      by_cases h:fi<i
      ·rw[if_pos h,if_pos (by omega)]
      ·rw[if_neg h,if_neg (by omega)])
     replace hB:=Hd hB
     clear e1 e2 ef tr hif h0
     have k1:=b1.cell
     have f1:=b1.frozen
     go_upto_region 19 with(fail)
     clear k1 f1
     refine Ad W (Bc w.heap.size #[.string s.name,.int .i64 s.eps,.int .i64 s.floor,.int .i64 s.last,.int .i64 s.scale,.slice ps s.segs.length cs,.slice (some ⟨bo,oo,none⟩) s.opn.length co] 25<|Bc W.heap.size #[.int .i64 t,.int .i64 y] 91<|Rc (fun W'=>Eb W' rb ro R2)<|Bz) ?_ (hI:=by exact Aa) (hR:=(Bc.mk (by exact Ab)<|Bc.mk (by exact Ab)<|Rc.mk (by first|exact⟨hR⟩|(exact(Eb.mk hR).below Aa))<|trivial))
     clear b1
     rintro W61 hW z62 hL
     obtain⟨⟨b1,yb1,k1,f1⟩,⟨b2,yb2,k2,f2⟩,b3,-⟩:=id hL
     clear k1 f1 k2 f2
     refine C2 12 90 hW hL ?_
     iterate 4 refine dE (fun W' hC=>aI (hC.2.2.2.1.cellAt r0.out) (aI E0.out (aI hB.out (aI hpos (Nat.not_le.2 hpos))))) ?_
     iterate 7 refine gE (fun W' hC=>aI (hC.2.2.2.1.cellAt r0.out) (aI E0.out (aI hB.out (aI hpos (Nat.not_le.2 hpos))))) ?_
     refine pA ?_
     clear hW hL b1 b2 b3
     rintro W63 hW z64 hL
     simp only[ndR]
     intros
     simp only[ndS]
     refine wpList_nil ?_
     obtain⟨⟨b1,yb1,k1,f1⟩,⟨b2,yb2,k2,f2⟩,b3,-⟩:=hL
     clear b3
     rw[hv.out]
     go_wp2
     rw[show (i:Int)+1=((i+1:Nat):Int) by omega]
     refine⟨?_,by simp[Ak];omega⟩
     unfold Np
     exact⟨hW0.trans (hW.mono hz),b1,hR.below hW,i+1,v,hfar,Ac rfl,by rw[hst.out];exact hown.below hW,by omega⟩
  ·obtain rfl:i=s.opn.length:=by omega
   obtain⟨p9,c9,rfl,-⟩:=hown.form
   have hR9:=hown.runs
   rw[<-hres.out] at hR9
   have hle:=Hd (congrArg List.length hres.out)
   go_wp2
   refine bodyPost_ret (v:= .slice p9 (K0++opI n fi s.opn.length).length c9) (by simp[results,Tryz.results36,go_sem]) rfl ⟨p9,c9,by rw[hle.out],hR9,hW0⟩
end Go.Proofs.YtidfcoooccblaaaGreat
