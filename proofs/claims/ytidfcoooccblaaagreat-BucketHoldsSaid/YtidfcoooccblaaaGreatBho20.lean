/- For every series that comes in, whatever is in it, all numbers, and every row of buckets: BucketHolds returns true; the arguments read as before. No condition. -/
import Derived.Test.YtidfcoooccblaaaGreatRows
import Derived.ProofKit
import Derived.Deep.Slices
import Derived.OpenShut
import Derived.Test.YtidfcoooccblaaaGreatBho19
set_option maxRecDepth 100000
set_option maxHeartbeats 8000000
set_option linter.unusedSimpArgs false
set_option linter.unusedVariables false
namespace Go.Proofs.YtidfcoooccblaaaGreat
open Go.ChangeShapes Go.WideShapes Go.ChangeAt Go.RowKit Go.Deep
section
variable {H:Type} {enc:TypeId×Value->H} {P:Program}
theorem Ke (hl:laidOutB P=true) {W W':World} (hb:Below W.heap.size W W') {sp:Nat->Bool}:∀(ts:List TypeId) (vs:List Value) (ds:List (DataW H)) (ps:List MemPlace),(∀t,t∈ts->P.readableRec t=true/\t<P.types.size)->
  DataW.TrodAll enc P W 0 (fun _=>true) true ts vs ds ps->(∀p∈ps,p.block<W.heap.size)->(∀p∈ps,sp p.block=true)->DataW.TrodAll enc P W' 0 sp true ts vs ds ps
 | [],vs,ds,ps,_,h,_,_=>by
  obtain⟨rfl,rfl,rfl⟩:=trodAll_nil h
  rfl
 |t::ts,vs,ds,ps,hr,h,hlt,hs=>by
  obtain⟨v,vs',d,ds',p,q,rfl,rfl,rfl,h1,h2⟩:=trodAll_cons h
  exact⟨p,q,WideElems.Trod_stays hl (hr t (by simp)).1 (hr t (by simp)).2 h1 (fun x hx=>hb.same (hlt x (by simp[hx]))) (fun x hx=>hs x (by simp[hx])),
   Ke hl hb ts vs' ds' q (fun u hu=>hr u (by simp[hu])) h2 (fun x hx=>hlt x (by simp[hx])) (fun x hx=>hs x (by simp[hx])),rfl⟩
theorem law_post {f:Func} {s:ChangeSpec} {apart fresh handsOn again:Bool} {W W':World} {args:Array Value} {ds:List (DataW H)} {before:List MemPlace} {tb:TypeId} (hl:laidOutB P=true)
  (hpar:∀t,t∈f.params.toList->P.readableRec t=true/\t<P.types.size) (hres:f.resultTypes= #[tb]) (htb:P.underlying tb=some .bool) (hv:s.vars= [])
  (hW:DataW.Whole enc P f.params.toList s.vars apart W args.toList ds [] before) (hb:Below W.heap.size W W') (hfn:s.fn H ds= {results:= [.lit (.bool true)],args:=ds}):
  s.post enc P f apart fresh handsOn again W args (.bool true) W':=by
 have hlt:∀p∈before,p.block<W.heap.size:=fun p hp=>hW.lt p hp
 have hold:∀p∈before,(fun b=>decide (b<W.heap.size)) p.block=true:=fun p hp=>by simpa using hlt p hp
 have hW':=hW
 obtain⟨p,q,hA,hV,rfl,hz,hn⟩:=hW
 rw[hv] at hV
 obtain⟨_,rfl⟩:=trodVars_none hV
 have hR:∀(b:Nat) (sp:Nat->Bool) (hd:Bool),DataW.TrodAll enc P W' b sp hd f.resultTypes.toList ((Value.bool true).resultList f.resultTypes.size) (s.fn H (ds++ [])).results []:=fun b sp hd=>by
  rw[hres,List.append_nil,hfn]
  exact trodAll_mk1 (shut_bool htb _)
 have hargs:∀sp:Nat->Bool,(∀x∈p++ [],sp x.block=true)->DataW.TrodAll enc P W' 0 sp true f.params.toList args.toList (s.fn H (ds++ [])).args p:=fun sp hsp=>by
  rw[List.append_nil,hfn]
  exact Ke hl hb _ _ _ _ hpar hA (fun x hx=>hlt x (by simp[hx])) (fun x hx=>hsp x (by simp[hx]))
 have hvars:∀sp:Nat->Bool,(∀x∈p++ [],sp x.block=true)->DataW.TrodVars enc P W' sp s.vars (s.fn H (ds++ [])).vars []:=fun sp _=>by
  rw[hv,List.append_nil,hfn]
  rfl
 refine⟨ds,[],p++ [],[],p,[],hW',hR _ _ _,hargs _ hold,hvars _ hold,World.keptBut_mono (fun x hx=>⟨hx,?_⟩) (hb.frame (·∈p++ [])),fun _=> ?_⟩
 ·exact Or.inr (by simpa using hx)
 ·refine⟨?_,_,_,([]++p)++ [],⟨[]++p,[],trodAll_append (hargs _ (fun _ _=>rfl)) (hR _ _ _),hvars _ (fun _ _=>rfl),rfl,?_,?_⟩,?_⟩
  ·exact ok_one hres rfl (okWide_bool_mk htb _)
  ·intro b off hx
   have hin:MemPlace.cell b off∈p++ []:=by simpa using hx
   rw[hb.frozen (hlt _ hin)]
   exact hz b off hin
  ·intro ha
   simpa using hn ha
  ·intro x hx _
   simpa using hx
end
def Di (P:Program) (t:TypeId):Array (TypeId×Nat):=match P.underlying t with|some (.struct fs)=>fs.map fun f=>(f.type,f.offset)|_=> #[]
section
variable {H:Type} {enc:TypeId×Value->H} {P:Program} {w:World} {base:Nat} {spare:Nat->Bool} {held:Bool}
theorem Jb {t:TypeId} {fl:Array (TypeId×Nat)} {fuel:Nat} {cs:List Value} {x:DataW H×List MemPlace} (hf:Di P t=fl) (hne:fl.size≠0) (h:DataW.trod enc P w base spare held fuel t cs=some x):
  cs.length=P.cellsOf t/\∀(i:Nat) (ty:TypeId) (off:Nat),fl[i]? =some (ty,off)->∃n y,DataW.trod enc P w base spare held n ty ((cs.drop off).take (P.cellsOf ty))=some y:=by
 unfold Di at hf
 split at hf
 ·rename_i fs hu
  obtain⟨xs,n,_,_,hl,hxl,hat⟩:=DataW.trod_struct hu h
  refine⟨hl,fun i ty off hi=> ?_⟩
  subst hf
  simp only[Array.getElem?_map,Option.map_eq_some_iff,Prod.mk.injEq] at hi
  obtain⟨f,h1,h2,h3⟩:=hi
  have hh:=hat i f h1
  have hlt:i<xs.length:=by have:=(Array.getElem?_eq_some_iff.1 h1).1;omega
  rw[List.getElem?_eq_getElem hlt] at hh
  subst h2;subst h3
  exact⟨n,_,hh⟩
 ·subst hf;simp at hne
theorem O8 {t:TypeId} {fl:Array (TypeId×Nat)} (hf:Di P t=fl) (hne:fl.size≠0):∃fs,P.underlying t=some (.struct fs):=by
 unfold Di at hf
 split at hf
 ·rename_i fs hu
  exact⟨fs,hu⟩
 ·subst hf;simp at hne
theorem Ev {t:TypeId} {fl:Array (TypeId×Nat)} {fuel:Nat} {cs:List Value} {x:DataW H×List MemPlace} (hf:Di P t=fl) (hne:fl.size≠0) (hn:P.cellsOf t=fl.size)
  (ha:∀i,i<fl.size->∃ty,fl[i]? =some (ty,i)/\P.underlying ty=some (.int .i64)/\P.cellsOf ty=1) (h:DataW.trod enc P w base spare held fuel t cs=some x):
  cs.length=fl.size/\∀i,i<fl.size->∃z:Int,cs[i]? =some (.int .i64 z)/\I64 z:=by
 obtain⟨hl,hat⟩:=Jb hf hne h
 refine⟨by omega,fun i hi=> ?_⟩
 obtain⟨ty,h1,h2,h3⟩:=ha i hi
 obtain⟨n,y,hy⟩:=hat i ty i h1
 obtain⟨z,hz,_,hw⟩:=DataW.trod_int h2 hy
 refine⟨z,?_,?_⟩
 ·rw[h3] at hz
  have:((cs.drop i).take 1)[0]? =some (.int .i64 z):=by rw[hz];rfl
  simpa using this
 ·simp[Lit.wf,IntKind.min,IntKind.max,IntKind.signed,IntKind.bits] at hw
  exact⟨by omega,by omega⟩
theorem Nh {α:Type} {Q:Nat->α->Prop}:∀n,(∀i,i<n->∃x,Q i x)->∃l:List α,l.length=n/\∀i x,l[i]? =some x->Q i x
 |0,_=>⟨[],rfl,fun i x h=>by simp at h⟩
 |n+1,h=>by
  obtain⟨l,hl,hq⟩:=Nh n fun i hi=>h i (by omega)
  obtain⟨x,hx⟩:=h n (by omega)
  refine⟨l++ [x],by simp[hl],fun i y hy=> ?_⟩
  rcases Nat.lt_or_ge i l.length with hlt|hge
  ·rw[List.getElem?_append_left hlt] at hy
   exact hq i y hy
  ·rw[List.getElem?_append_right hge] at hy
   have:i=l.length:=by
    rcases Nat.eq_or_lt_of_le hge with e|e
    ·exact e.symm
    ·rw[List.getElem?_eq_none (by simp;omega)] at hy;cases hy
   subst this
   simp at hy
   rw[hl,<-hy]
   exact hx
theorem Lv {a:Addr} {v:Value} (h:w.cell? a=some v):a=⟨a.block,a.off,none⟩:=by
 obtain⟨b,o,s⟩:=a
 cases s with
 |none=>rfl
 |some k=>
  unfold World.cell? at h
  simp at h
  split at h<;>cases h
theorem Vg {b o n:Nat}:(⟨b,o,none⟩:Addr).add n=⟨b,o+n,none⟩:=by unfold Addr.add;split<;>simp_all
theorem Pf {t e:TypeId} {n fuel:Nat} {fl:Array (TypeId×Nat)} {cs:List Value} {x:DataW H×List MemPlace} (ht:P.underlying t=some (.slice e)) (hf:Di P e=fl) (hfl:fl.size=n) (hn0:n≠0) (hn:P.cellsOf e=n)
  (ha:∀i,i<fl.size->∃ty,fl[i]? =some (ty,i)/\P.underlying ty=some (.int .i64)/\P.cellsOf ty=1) (h:DataW.trod enc P w base spare held fuel t cs=some x):
  ∃(p:Option Addr) (len cap:Nat),cs= [.slice p len cap]/\(p=none->len=0/\cap=0)/\len<=cap/\cap<=maxLen/\
   ∀i,i<len->∃b o,p=some ⟨b,o,none⟩/\∀j,j<n->∃z:Int,w.cell? ⟨b,o+i*n+j,none⟩=some (.int .i64 z)/\I64 z:=by
 rcases open_slice ht h with⟨rfl,rfl⟩|⟨a,len,cap,m,k,D,Pl,rfl,hb,hl,hm,hmm,hx,hi⟩
 ·exact⟨none,0,0,rfl,fun _=>⟨rfl,rfl⟩,Nat.le_refl _,Nat.zero_le _,fun i hi=>by omega⟩
 ·refine⟨some a,len,cap,rfl,(fun e=>by cases e),hl,hm,fun i hilt=> ?_⟩
  have hlm:len<=m:=by rw[hmm];split<;>omega
  have key:∀i,i<len->∀j,j<n->∃z:Int,w.cell? (a.add (i*n+j))=some (.int .i64 z)/\I64 z:=by
   intro i hilt j hj
   obtain⟨cs',hc,ht'⟩:=hi i (by omega)
   obtain⟨_,hcl,hat⟩:=World.cells?_some hc
   obtain⟨hl',hz⟩:=Ev hf (by omega) (by omega) ha ht'
   obtain⟨z,hz1,hz2⟩:=hz j (by omega)
   have:=hat j (by omega)
   rw[add_add,hn,hz1] at this
   exact⟨z,this,hz2⟩
  obtain⟨z0,hz0,_⟩:=key 0 (by omega) 0 (by omega)
  simp[Addr.add] at hz0
  have hs:=Lv hz0
  refine⟨a.block,a.off,by rw[<-hs],fun j hj=> ?_⟩
  obtain⟨z,h1,h2⟩:=key i hilt j hj
  rw[hs,Vg] at h1
  exact⟨z,by rw[Nat.add_assoc];exact h1,h2⟩
theorem Pg {t e:TypeId} {fuel:Nat} {cs:List Value} {x:DataW H×List MemPlace} (ht:P.underlying t=some (.slice e)) (he:P.underlying e=some (.int .i64)) (hc:P.cellsOf e=1) (h:DataW.trod enc P w base spare held fuel t cs=some x):
  ∃(p:Option Addr) (l:List Int) (cap:Nat),cs= [.slice p l.length cap]/\(p=none->l= []/\cap=0)/\l.length<=cap/\cap<=maxLen/\Au w p l/\∀z,z∈l->I64 z:=by
 rcases open_ints ht he hc h with⟨rfl,_⟩|⟨a,len,cap,zs,rfl,hb,hl,hm,hzl,_,hz,hw⟩
 ·exact⟨none,[],0,rfl,fun _=>⟨rfl,rfl⟩,Nat.le_refl _,Nat.zero_le _,⟨fun i x h=>by simp at h⟩,fun z h=>by simp at h⟩
 ·have hle:len<=zs.length:=by rw[hzl];split<;>omega
  refine⟨some a,zs.take len,cap,by simp[hle],(fun e=>by cases e),by simp;omega,hm,⟨fun i x hx=> ?_⟩,fun z hz'=> ?_⟩
  ·rw[List.getElem?_take] at hx
   split at hx
   ·rename_i hil
    have h0:=hz 0 (by omega)
    simp[Addr.add] at h0
    have hs:=Lv h0
    have hi:=hz i (by omega)
    rw[hs,Vg] at hi
    refine⟨a.block,a.off,by rw[<-hs],?_⟩
    rw[hi,List.getD_eq_getElem?_getD,hx]
    rfl
   ·cases hx
  ·have:=hw z (List.mem_of_mem_take hz')
   simp[Lit.wf,IntKind.min,IntKind.max,IntKind.signed,IntKind.bits] at this
   exact⟨by omega,by omega⟩
end
section
variable {H:Type} {enc:TypeId×Value->H} {w:World} {base:Nat} {spare:Nat->Bool} {held:Bool}
theorem Tryz.fieldsRun :Di Tryz.prog 144= #[(2,0),(2,1),(3,2)]:=by kernel_rfl
theorem Tryz.fieldsLine :Di Tryz.prog 95= #[(2,0),(2,1),(2,2),(2,3)]:=by kernel_rfl
theorem Tryz.fieldsSeg :Di Tryz.prog 98= #[(3,0),(93,1),(95,2),(96,6),(2,7)]:=by kernel_rfl
theorem Tryz.isInt :Tryz.prog.underlying 3=some (.int .i64)/\Tryz.prog.cellsOf 3=1:=⟨by kernel_rfl,by kernel_rfl⟩
theorem Tryz.isInt64 :Tryz.prog.underlying 2=some (.int .i64)/\Tryz.prog.cellsOf 2=1:=⟨by kernel_rfl,by kernel_rfl⟩
theorem Ox {fuel:Nat} {cs:List Value} {x:DataW H×List MemPlace} (h:DataW.trod enc Tryz.prog w base spare held fuel 93 cs=some x):
  ∃(p:Option Addr) (l:List Af) (cap:Nat),cs= [.slice p l.length cap]/\(p=none->l= []/\cap=0)/\l.length<=cap/\cap<=maxLen/\Ai w p l/\∀r,r∈l->I64 r.f/\I64 r.s/\I64 r.c:=by
 obtain⟨p,len,cap,rfl,hn,hl,hm,hi⟩:=Pf (n:=3) (by kernel_rfl) Tryz.fieldsRun rfl (by omega) (by kernel_rfl) (fun i hi=>by
  match i,hi with
  |0,_=>exact⟨_,rfl,Tryz.isInt64⟩
  |1,_=>exact⟨_,rfl,Tryz.isInt64⟩
  |2,_=>exact⟨_,rfl,Tryz.isInt⟩) h
 obtain⟨l,rfl,hq⟩:=Nh (Q:=fun i (r:Af)=>(∃b o,p=some ⟨b,o,none⟩/\w.cell? ⟨b,o+i*3,none⟩=some (.int .i64 r.f)/\w.cell? ⟨b,o+i*3+1,none⟩=some (.int .i64 r.s)/\w.cell? ⟨b,o+i*3+2,none⟩=some (.int .i64 r.c))/\I64 r.f/\I64 r.s/\I64 r.c) len (fun i hilt=>by
  obtain⟨b,o,e,hj⟩:=hi i hilt
  obtain⟨f,f1,f2⟩:=hj 0 (by omega)
  obtain⟨s,s1,s2⟩:=hj 1 (by omega)
  obtain⟨c,c1,c2⟩:=hj 2 (by omega)
  exact⟨⟨f,s,c⟩,⟨b,o,e,by simpa using f1,s1,c1⟩,f2,s2,c2⟩)
 refine⟨p,l,cap,rfl,fun e=>⟨List.length_eq_zero_iff.1 (hn e).1,(hn e).2⟩,hl,hm,⟨fun i r hr=>(hq i r hr).1⟩,fun r hr=> ?_⟩
 obtain⟨i,hi⟩:=List.getElem?_of_mem hr
 exact(hq i r hi).2
end
theorem pars_ok {P:Program} {ts:List TypeId} (h:(ts.all fun t=>P.readableRec t&&decide (t<P.types.size))=true):∀t,t∈ts->P.readableRec t=true/\t<P.types.size:=fun t ht=>by
 have:=List.all_eq_true.1 h t ht
 simpa using this
theorem Tryz.ownKnob :ownKnob Tryz.prog.godebug=none:=by kernel_rfl
theorem Tryz.laidOut :laidOutB Tryz.prog=true:=by kernel_rfl
section
variable {H:Type} {enc:TypeId×Value->H} {w:World} {base:Nat} {spare:Nat->Bool} {held:Bool}
theorem Tryz.fieldsSer :Di Tryz.prog 25= #[(9,0),(2,1),(2,2),(2,3),(3,4),(22,5),(23,6)]:=by kernel_rfl
theorem Tryz.fieldsPoint :Di Tryz.prog 91= #[(2,0),(2,1)]:=by kernel_rfl
theorem Ow {fuel:Nat} {cs:List Value} {x:DataW H×List MemPlace} (hf:DataW.trod enc Tryz.prog w base spare held fuel 98 cs=some x):
  ∃r:Cu,cs=(Fb r).toList/\Yz w r.s r.p r.q r.cap r.vc:=by
 have hC:Tryz.prog.cellsOf 98=8:=by kernel_rfl
 have hR:Tryz.prog.cellsOf 93=1:=by kernel_rfl
 have hV:Tryz.prog.cellsOf 96=1:=by kernel_rfl
 have hL:Tryz.prog.cellsOf 95=4:=by kernel_rfl
 obtain⟨hsz,hat⟩:=Jb Tryz.fieldsSeg (by simp) hf
 rw[hC] at hsz
 match cs,hsz with
 | [c0,c1,c2,c3,c4,c5,c6,c7],_=>
  obtain⟨n0,y0,h0⟩:=hat 0 _ _ rfl
  obtain⟨n1,y1,h1⟩:=hat 1 _ _ rfl
  obtain⟨n2,y2,h2⟩:=hat 2 _ _ rfl
  obtain⟨n3,y3,h3⟩:=hat 3 _ _ rfl
  obtain⟨n4,y4,h4⟩:=hat 4 _ _ rfl
  rw[Tryz.isInt.2] at h0
  rw[hR] at h1
  rw[hL] at h2
  rw[hV] at h3
  rw[Tryz.isInt64.2] at h4
  obtain⟨K,eK,_,wK⟩:=DataW.trod_int Tryz.isInt.1 h0
  obtain⟨p,l,cap,e1,r1,r2,r3,r4,r5⟩:=Ox h1
  obtain⟨_,hln⟩:=Ev Tryz.fieldsLine (by simp) (by rw[hL];rfl) (fun i hi=>by
   match i,hi with
   |0,_=>exact⟨_,rfl,Tryz.isInt64⟩
   |1,_=>exact⟨_,rfl,Tryz.isInt64⟩
   |2,_=>exact⟨_,rfl,Tryz.isInt64⟩
   |3,_=>exact⟨_,rfl,Tryz.isInt64⟩) h2
  obtain⟨A,a1,a2⟩:=hln 0 (by simp)
  obtain⟨R,b1,b2⟩:=hln 1 (by simp)
  obtain⟨N,g1,g2⟩:=hln 2 (by simp)
  obtain⟨D,d1,d2⟩:=hln 3 (by simp)
  obtain⟨q,v,vc,e3,q1,q2,q3,q4,q5⟩:=Pg (by kernel_rfl) Tryz.isInt64.1 Tryz.isInt64.2 h3
  obtain⟨E,eE,_,wE⟩:=DataW.trod_int Tryz.isInt64.1 h4
  simp at eK e1 a1 b1 g1 d1 e3 eE
  subst eK;subst e1;subst a1;subst b1;subst g1;subst d1;subst e3;subst eE
  unfold maxLen at r3 q3
  exact⟨⟨⟨K,l,A,R,N,D,v,E⟩,p,q,cap,vc⟩,rfl,⟨r4,q4,r1,q1,r2,q2,by show l.length<=_;omega,by show v.length<=_;omega⟩⟩
theorem Xo {fuel:Nat} {cs:List Value} {x:DataW H×List MemPlace} (h:DataW.trod enc Tryz.prog w base spare held fuel 22 cs=some x):
  ∃(p:Option Addr) (rows:List Cu) (cap:Nat),cs= [.slice p rows.length cap]/\(p=none->rows.length=0/\cap=0)/\rows.length<=cap/\Dj w p rows:=by
 have hC:Tryz.prog.cellsOf 98=8:=by kernel_rfl
 rcases open_slice (e:=98) (by kernel_rfl) h with⟨rfl,rfl⟩|⟨a,len,cap,m,k,D,Pl,rfl,hb,hl,hm,hmm,hx,hi⟩
 ·exact⟨none,[],0,rfl,fun _=>⟨rfl,rfl⟩,Nat.le_refl _,fun i r hr=>by simp at hr⟩
 ·have hlm:len<=m:=by rw[hmm];split<;>omega
  have hs:0<len->a=⟨a.block,a.off,none⟩:=fun h0=>by
   obtain⟨cs',hc,ht'⟩:=hi 0 (by omega)
   rw[hC] at hc
   obtain⟨_,hcl,hat⟩:=World.cells?_some hc
   have h1:=hat 0 (by omega)
   rw[List.getElem?_eq_getElem (by omega)] at h1
   simp[Addr.add] at h1
   exact Lv h1
  obtain⟨rows,rfl,hq⟩:=Nh (Q:=fun i (r:Cu)=>(∃b o,a=⟨b,o,none⟩/\(∀j v,(Fb r)[j]? =some v->w.cell? ⟨b,o+i*8+j,none⟩=some v))/\Yz w r.s r.p r.q r.cap r.vc) len (fun i hilt=>by
   obtain⟨cs',hc,ht'⟩:=hi i (by omega)
   rw[hC] at hc
   obtain⟨_,hcl,hat⟩:=World.cells?_some hc
   obtain⟨r,rfl,hcm⟩:=Ow ht'
   refine⟨r,⟨a.block,a.off,hs (by omega),fun j v hv=> ?_⟩,hcm⟩
   have hj:j<8:=by have:=(Array.getElem?_eq_some_iff.1 hv).1;rw[show (Fb r).size=8 from rfl] at this;exact this
   have h1:=hat j hj
   rw[add_add,hs (by omega),Vg,Array.getElem?_toList,hv] at h1
   rw[Nat.add_assoc]
   exact h1)
  exact⟨some a,rows,cap,rfl,(fun e=>by cases e),hl,fun i r hr=>by
   obtain⟨⟨b,o,e,h1⟩,h2⟩:=hq i r hr
   exact⟨b,o,by rw[e],h1,h2⟩⟩
theorem Zx {fuel:Nat} {cs:List Value} {x:DataW H×List MemPlace} (h:DataW.trod enc Tryz.prog w base spare held fuel 23 cs=some x):
  ∃(p:Option Addr) (l:List (Int×Int)) (cap:Nat),cs= [.slice p l.length cap]/\(p=none->l.length=0/\cap=0)/\l.length<=cap/\A5 w p l:=by
 obtain⟨p,len,cap,rfl,hn,hl,hm,hi⟩:=Pf (n:=2) (by kernel_rfl) Tryz.fieldsPoint rfl (by omega) (by kernel_rfl) (fun i hi=>by
  match i,hi with
  |0,_=>exact⟨_,rfl,Tryz.isInt64⟩
  |1,_=>exact⟨_,rfl,Tryz.isInt64⟩) h
 obtain⟨l,rfl,hq⟩:=Nh (Q:=fun i (r:Int×Int)=>∃b o,p=some ⟨b,o,none⟩/\w.cell? ⟨b,o+i*2,none⟩=some (.int .i64 r.1)/\w.cell? ⟨b,o+i*2+1,none⟩=some (.int .i64 r.2)) len (fun i hilt=>by
  obtain⟨b,o,e,hj⟩:=hi i hilt
  obtain⟨f,f1,f2⟩:=hj 0 (by omega)
  obtain⟨s,s1,s2⟩:=hj 1 (by omega)
  exact⟨(f,s),b,o,e,by simpa using f1,s1⟩)
 exact⟨p,l,cap,rfl,hn,hl,⟨fun i r hr=>hq i r hr⟩⟩
theorem Zw {r:Reach} {b0:Nat} {v:Value} {d:DataW H} {ps:List MemPlace} (hv:Value.okWide Tryz.prog w r b0 25 v) (h:DataW.Trod enc Tryz.prog w base spare held 25 v d ps):
  ∃nm ep fl la sc p cs rows q co pts,v= .agg #[.string nm,.int .i64 ep,.int .i64 fl,.int .i64 la,.int .i64 sc,.slice p rows.length cs,.slice q pts.length co]/\J9 w p q cs co rows pts:=by
 obtain⟨fs,hfs⟩:∃fs,Tryz.prog.underlying 25=some (.struct fs):=O8 Tryz.fieldsSer (by simp)
 obtain⟨cs,rfl,hsz⟩:=okWide_struct hfs hv
 have hC:Tryz.prog.cellsOf 25=7:=by kernel_rfl
 have hR:Tryz.prog.cellsOf 22=1:=by kernel_rfl
 have hV:Tryz.prog.cellsOf 23=1:=by kernel_rfl
 have hS:Tryz.prog.cellsOf 9=1:=by kernel_rfl
 obtain⟨fuel,hf⟩:=h
 obtain⟨l⟩:=cs
 obtain⟨_,hat⟩:=Jb Tryz.fieldsSer (by simp) hf
 rw[hC] at hsz
 match l,hsz with
 | [c0,c1,c2,c3,c4,c5,c6],_=>
  obtain⟨n0,y0,h0⟩:=hat 0 _ _ rfl
  obtain⟨n1,y1,h1⟩:=hat 1 _ _ rfl
  obtain⟨n2,y2,h2⟩:=hat 2 _ _ rfl
  obtain⟨n3,y3,h3⟩:=hat 3 _ _ rfl
  obtain⟨n4,y4,h4⟩:=hat 4 _ _ rfl
  obtain⟨n5,y5,h5⟩:=hat 5 _ _ rfl
  obtain⟨n6,y6,h6⟩:=hat 6 _ _ rfl
  rw[hS] at h0
  rw[Tryz.isInt64.2] at h1 h2 h3
  rw[Tryz.isInt.2] at h4
  rw[hR] at h5
  rw[hV] at h6
  obtain⟨nm,e0,_⟩:=DataW.trod_string (by kernel_rfl) h0
  obtain⟨ep,e1,_,_⟩:=DataW.trod_int Tryz.isInt64.1 h1
  obtain⟨fl,e2,_,_⟩:=DataW.trod_int Tryz.isInt64.1 h2
  obtain⟨la,e3,_,_⟩:=DataW.trod_int Tryz.isInt64.1 h3
  obtain⟨sc,e4,_,_⟩:=DataW.trod_int Tryz.isInt.1 h4
  obtain⟨p,rows,cs,e5,r1,r2,r3⟩:=Xo h5
  obtain⟨q,pts,co,e6,s1,s2,s3⟩:=Zx h6
  simp[Value.cells] at e0 e1 e2 e3 e4 e5 e6
  subst e0;subst e1;subst e2;subst e3;subst e4;subst e5;subst e6
  exact⟨nm,ep,fl,la,sc,p,cs,rows,q,co,pts,rfl,⟨r3,s3,r1,s1,r2,s2⟩⟩
end
section
variable {H:Type} {enc:TypeId×Value->H} {w:World} {base:Nat} {spare:Nat->Bool} {held:Bool}
theorem Tryz.fieldsRow :Di Tryz.prog 79= #[(3,0),(2,1),(2,2),(3,3)]:=by kernel_rfl
theorem Qi {r:Reach} {b0:Nat} {v:Value} {d:DataW H} {ps:List MemPlace} (hv:Value.okWide Tryz.prog w r b0 79 v) (h:DataW.Trod enc Tryz.prog w base spare held 79 v d ps):
  ∃A R N D:Int,v= .agg #[A,R,N,D]:=by
 obtain⟨fs,hfs⟩:∃fs,Tryz.prog.underlying 79=some (.struct fs):=O8 Tryz.fieldsRow (by simp)
 obtain⟨cs,rfl,hsz⟩:=okWide_struct hfs hv
 have hL:Tryz.prog.cellsOf 79=4:=by kernel_rfl
 obtain⟨fuel,hf⟩:=h
 obtain⟨l⟩:=cs
 obtain⟨_,hln⟩:=Ev Tryz.fieldsRow (by simp) (by rw[hL];rfl) (fun i hi=>by
  match i,hi with
  |0,_=>exact⟨_,rfl,Tryz.isInt⟩
  |1,_=>exact⟨_,rfl,Tryz.isInt64⟩
  |2,_=>exact⟨_,rfl,Tryz.isInt64⟩
  |3,_=>exact⟨_,rfl,Tryz.isInt⟩) hf
 rw[hL] at hsz
 match l,hsz with
 | [x0,x1,x2,x3],_=>
  obtain⟨A,a1,_⟩:=hln 0 (by simp)
  obtain⟨R,b1,_⟩:=hln 1 (by simp)
  obtain⟨N,g1,_⟩:=hln 2 (by simp)
  obtain⟨D,d1,_⟩:=hln 3 (by simp)
  simp[Value.cells] at a1 b1 g1 d1
  subst a1;subst b1;subst g1;subst d1
  exact⟨A,R,N,D,rfl⟩
end
end Go.Proofs.YtidfcoooccblaaaGreat
namespace Go.Proofs.YtidfcoooccblaaaGreat
open Go.ChangeShapes Go.WideShapes Go.ChangeAt Go.RowKit
section
variable {H:Type} {enc:TypeId×Value->H} {w:World} {base:Nat} {spare:Nat->Bool} {held:Bool}
theorem Qj {r:Reach} {b0:Nat} {v:Value} {d:DataW H} {ps:List MemPlace} (hv:Value.okWide Tryz.prog w r b0 96 v) (h:DataW.Trod enc Tryz.prog w base spare held 96 v d ps):
  ∃(p:Option Addr) (l:List Int) (cap:Nat),v= .slice p l.length cap/\(p=none->l= []/\cap=0)/\l.length<=cap/\cap<=maxLen/\Au w p l/\∀z,z∈l->I64 z:=by
 have hu:Tryz.prog.underlying 96=some (.slice 2):=by kernel_rfl
 obtain⟨a,len,cap,rfl⟩:=okWide_slice hu hv
 obtain⟨fuel,hf⟩:=h
 obtain⟨p,l,c,e,r⟩:=Pg hu Tryz.isInt64.1 Tryz.isInt64.2 hf
 simp[Value.cells] at e
 obtain⟨rfl,rfl,rfl⟩:=e
 exact⟨_,l,_,rfl,r⟩
end
end Go.Proofs.YtidfcoooccblaaaGreat
namespace Go.Proofs.YtidfcoooccblaaaGreat
open Go.RowKit
theorem Th {k N:Nat} {fr wd:Int} (h:1<=k/\k<=5/\0<=fr/\fr<=281474976710656/\1<=wd/\wd<=281474976710656/\1<=N/\N<=64):Gl (k:Int) fr wd (N:Int)=true:=by
 unfold Gl
 exact decide_eq_true (by omega)
theorem bkL_K {s:A3} (hc:Bv s=true) {k N:Nat} {fr wd:Int} (h:1<=k/\k<=5/\0<=fr/\fr<=281474976710656/\1<=wd/\wd<=281474976710656/\1<=N/\N<=64):bkL s (k:Int) fr wd (N:Int)=(bLs s fr wd N).map (D5 k):=by
 unfold bkL
 rw[hc,Th h,Int.toNat_natCast,Int.toNat_natCast]
 exact Yo hc k fr wd N
theorem bkE_K {s:A3} (hc:Bv s=true) {k N:Nat} {fr wd:Int} (h:1<=k/\k<=5/\0<=fr/\fr<=281474976710656/\1<=wd/\wd<=281474976710656/\1<=N/\N<=64):bkE s (k:Int) fr wd (N:Int)=0:=by
 unfold bkE
 rw[hc,Th h]
 rfl
end Go.Proofs.YtidfcoooccblaaaGreat
namespace Go.Proofs.YtidfcoooccblaaaGreat
open Go.ChangeShapes Go.WideShapes Go.ChangeAt Go.RowKit Go.Deep
theorem c_bhold (nm:ByteArray) (ep fl la sc:Int) (ps po:Option Addr) (cs co:Nat) (rows:List Cu) (pts:List (Int×Int)) (pb:Option Addr) (cb:Nat) (by_:List Int) (qa qb qc qd:Int) (w:World) (h:J9 w ps po cs co rows pts) (hby:Au w pb by_) (hby9:∀z,z∈by_->I64 z):
  Cb 10 #[.agg #[.string nm,.int .i64 ep,.int .i64 fl,.int .i64 la,.int .i64 sc,.slice ps rows.length cs,.slice po pts.length co],.slice pb by_.length cb,.agg #[.int .i64 qa,.int .i64 qb,.int .i64 qc,.int .i64 qd]] w (.bool true):=by
 obtain⟨k,N,fr,wd,hq,cM⟩:=c_may qa qb qc qd
 have c1:=fun W (_:Below w.heap.size w W)=>X6 W
 have c2:=fun W (hW:Below w.heap.size w W)=>c_own26L nm ep fl la sc ps po cs co rows pts W (h.below hW)
 obtain⟨s,hs⟩:∃s,Gp nm ep fl la sc rows pts=s:=⟨_,rfl⟩
 rw[hs] at c2
 have f1:s.segs.length<=100:=by
  rw[<-hs]
  show ((rows.take (min rows.length 12)).map fun r=>Sh r.s).length<=100
  rw[List.length_map,List.length_take]
  omega
 have f2:s.opn.length<=100:=by
  rw[<-hs]
  show (pts.take (min pts.length 40)).length<=100
  rw[List.length_take]
  omega
 clear hs
 unfold Cd at c2
 have cC:=fun(W:World) (pS:Option Addr) (capS:Nat) (pP:Option Addr) (capP:Nat) (hW:A9 W s pS pP)=>Gv s pS pP capS capP W hW
 unfold Du at cC
 cases hc:Bv s with
 |false=>
  rw[hc] at cC
  unfold Cd at cC
  exact Te nm ep fl la sc ps po _ cs _ co s pb cb by_ qa qb qc qd k N fr wd [] 340 w (by omega) (by omega) (by omega) (by omega) (fun e=>by cases e) (fun e=>by cases e) hby hby9 (fun e=>by cases e) (fun e=>by cases e) f1 f2 (Hd (.inl rfl)) c1 c2 (fun W=>cM W) cC (fun e=>by cases e)
 |true=>
  have cL:=fun(W:World) (pS:Option Addr) (capS:Nat) (pP:Option Addr) (capP:Nat) (hW:A9 W s pS pP)=>Ge s pS pP capS capP (k:Int) fr wd (N:Int) W hW
  unfold Hn at cL
  rw[bkL_K hc hq,bkE_K hc hq] at cL
  obtain⟨ls,hls⟩:∃ls,bLs s fr wd N=ls:=⟨_,rfl⟩
  have hln:ls.length=N:=by rw[<-hls];unfold bLs;simp
  rw[hls] at cL
  rw[List.length_map,hln] at cL
  rw[hc] at cC
  simp only[if_true] at cC
  unfold Cd at cC cL
  have hnum:btw s.eps 0 1099511627776=true:=by
   have hc':=hc
   unfold Bv N5 at hc'
   simp only[Bool.and_eq_true] at hc'
   exact hc'.1.2.1
  unfold btw at hnum
  simp only[Bool.and_eq_true,decide_eq_true_eq] at hnum
  exact Te nm ep fl la sc ps po _ cs _ co s pb cb by_ qa qb qc qd k N fr wd ls 0 w (by omega) (by omega) (by omega) (by omega) (fun _=>hln) (fun _=>El hc) hby hby9 (fun _=>Ys hc f1 f2) (fun _=>rdG_val hc by_) f1 f2 (Hd (.inr ⟨rfl,Hd ⟨hnum.1,hnum.2,fun i l hl=>by
   have e:l=Dx s (fr+(i:Int)*wd) (fr+(i:Int)*wd+wd-1):=by
    rw[<-hls] at hl
    unfold bLs at hl
    rw[List.getElem?_map] at hl
    cases hr:(List.range N)[i]? with
    |none=>rw[hr] at hl;cases hl
    |some j=>
     rw[hr] at hl
     have hj:j=i:=by
      have:=List.getElem?_eq_some_iff.1 hr
      obtain⟨hlt,he⟩:=this
      simpa using he.symm
     rw[hj] at hl
     exact(Option.some.inj hl).symm
   have ew:At s (fr+(i:Int)*wd) (fr+(i:Int)*wd+wd-1)=Dx s (fr+(i:Int)*wd) (fr+(i:Int)*wd+wd-1):=by simp[At,hc]
   have tk:=(P2 s f1 f2 (fr+(i:Int)*wd) (fr+(i:Int)*wd+wd-1)).2
   rw[ew] at tk
   rw[e]
   exact⟨Ta hc by_ _ _,Vb hc _ _,tk⟩⟩⟩)) c1 c2 (fun W=>cM W) cC (fun _=>cL)
theorem Ri (os:Os) (started:os.Started) (H:Type) (enc:TypeId×Value->H):
  ReturnsInHanded {} Tryz.checked os 10 .any (Rows.bucketHoldsSpec.pre6 enc Tryz.prog Tryz.f10 Rows.bucketHoldsRow.domain false) (Rows.bucketHoldsSpec.post enc Tryz.prog Tryz.f10 false true false false):=by
 refine returnsInHanded_of_change (C:=Tryz.checked) Tryz.ownKnob started (by kernel_rfl) Tryz.func10
  (ChangeSpec.witness6 (enc:=enc) (C:=Tryz.checked) false ⟨#[],#[.agg #[.string .empty,.int .i64 0,.int .i64 0,.int .i64 0,.int .i64 0,.slice none 0 0,.slice none 0 0],.slice none 0 0,.agg #[.int .i64 0,.int .i64 0,.int .i64 0,.int .i64 0]],[]⟩ 8 (by kernel_rfl) (by kernel_rfl) (by kernel_rfl) (by kernel_rfl)) ?_
 intro W base args ds gs before hval0 hW hcnd _
 have hval:∀(j:Nat) t v,Tryz.f10.params[j]? =some t->args[j]? =some v->Value.okWide Tryz.prog W .any base t v:=hval0
 have hW':=hW
 obtain⟨p,q,hA0,hV,rfl,hfz,hnd⟩:=hW
 have hA:DataW.TrodAll enc Tryz.prog W 0 (fun _=>true) true Tryz.f10.params.toList args.toList ds p:=hA0
 rw[Tryz.params10] at hA hval
 obtain⟨v0,vs0,d0,ds0,p0,q0,hargs,rfl,rfl,h0,hA⟩:=trodAll_cons hA
 obtain⟨v1,vs1,d1,ds1,p1,q1,rfl,rfl,rfl,h1,hA⟩:=trodAll_cons hA
 obtain⟨v2,vs2,d2,ds2,p2,q2,rfl,rfl,rfl,h2,hA⟩:=trodAll_cons hA
 obtain⟨rfl,rfl,rfl⟩:=trodAll_nil hA
 obtain rfl:args= #[v0,v1,v2]:=by rw[<-Array.toList_inj,hargs]
 obtain⟨rfl,rfl⟩:=trodVars_none hV
 obtain⟨nm,ep,fl,la,sc,p',cs,rows,q',co,pts,rfl,hs⟩:=Zw (hval 0 _ v0 rfl rfl) h0
 obtain⟨pb,by_,cb,rfl,-,-,-,hby,hby9⟩:=Qj (hval 1 _ v1 rfl rfl) h1
 obtain⟨qa,qb,qc,qd,rfl⟩:=Qi (hval 2 _ v2 rfl rfl) h2
 clear hA0 hval0
 refine(c_bhold nm ep fl la sc p' q' cs co rows pts pb cb by_ qa qb qc qd W hs hby hby9).mono fun e W' ⟨he,hb⟩=> ?_
 subst he
 exact⟨_,rfl,law_post Tryz.laidOut (pars_ok (by kernel_rfl)) rfl (by kernel_rfl) rfl hW' hb rfl⟩
theorem bucketHolds_holds :Rows.BucketHoldsSaid:=
 OpenClaim.holds_of_wide 10 Tryz.f10 rfl rfl rfl rfl rfl rfl rfl ⟨rfl,rfl,rfl,rfl,rfl⟩ rfl rfl rfl rfl rfl (by kernel_rfl) Tryz.func10 (by kernel_rfl)
  (of_decide_eq_true (by kernel_rfl)) (by unfold Func.isWrapper;first|(rw[if_pos (by decide+kernel)];kernel_rfl)|(rw[if_neg (by decide+kernel)];exact⟨rfl,rfl⟩))
  (fun os started H enc _=>Ri os started H enc)
end Go.Proofs.YtidfcoooccblaaaGreat
