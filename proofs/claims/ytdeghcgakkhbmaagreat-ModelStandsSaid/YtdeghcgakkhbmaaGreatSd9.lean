/- Parts of the proof that follows. No condition. -/
import Derived.Test.YtdeghcgakkhbmaaGreatSd8
set_option maxRecDepth 100000
set_option maxHeartbeats 8000000
set_option linter.unusedSimpArgs false
set_option linter.unusedVariables false
namespace Go.Proofs.YtdeghcgakkhbmaaGreat
open Go.RowKit
section
variable {P:Program} {ops:Array Oper} {C:World->Prop} {X:List (Nat×Nat)} {a0:Act} {n:Nat} {Q:Exit->Act->World->Prop}
theorem Jw {m i:Nat} {o:Oper} {Ψ:Nat->Bi} {listed:Array Bool} {a:Act} {w w':World} {u:Value} (hok:Ok ops n m) (hm:m=a0.tmps.size) (hC:∀i,i<n->∀u w w',C w->Rex (Fi X i) w w'->Ψ i u w'->C w')
  (hcl:∀i,i<n->A9 (Bn X i) (Ψ i)) (inv:Inv ops C a0 n Ψ listed a w) (hr:i∈Region.ready .any ops listed) (hi:i<n) (ho:ops[i]? =some o)
  (hR:Rex (Fi X i) w w') (hΨ:Ψ i u w') (hnew:Au o=true->u=undef∨NewPtr w w' u):Inv ops C a0 n Ψ (listed.setIfInBounds i true) (a.put o.dst u) w':=by
 obtain⟨hun,o',ho',hall⟩:=mem_ready.1 hr
 obtain rfl:o'=o:=by rw[ho] at ho';injection ho' with h;exact h.symm
 have hil:i<listed.size:=by rw[inv.lsize];exact(Array.getElem?_eq_some_iff.1 ho).1
 have hwi:Bf ops i=o'.dst:=by simp[Bf,ho]
 have hset:∀j,(listed.setIfInBounds i true).getD j false=true->j=i∨listed.getD j false=true:=by
  intro j hj
  by_cases hji:j=i
  ·exact .inl hji
  ·exact .inr (by rwa [getD_set_ne false (Ne.symm hji)] at hj)
 have hdsz:∀d,o'.dst=some d->d<a.tmps.size:=fun d hd=>by rw[inv.size,<-hm];exact hok.dst i d hi (by rw[hwi,hd])
 have hkeep:∀s,o'.dst≠some s->(a.put o'.dst u).tmps.getD s undef=a.tmps.getD s undef:=by
  intro s hs
  cases hd:o'.dst with
  |none=>rfl
  |some d=>exact Fu (fun e=>hs (by rw[hd,e]))
 have hput:∀d,o'.dst=some d->(a.put o'.dst u).tmps.getD d undef=u:=by
  intro d hd
  rw[hd]
  exact Gw (hdsz d hd)
 have hclosed:∀j,j<n->j≠i->∀v,Ψ j v w->Ψ j v w':=fun j hj hji v hv=>hcl j hj v w w' (hR.more (Ri (Ne.symm hji))) hv
 have hother:∀j,j<n->j≠i->∀d,Bf ops j=some d->o'.dst≠some d:=fun j hj hji d hd e=>hji (hok.uniq j i d hj hi hd (by rw[hwi,e]))
 refine⟨hC i hi u _ _ inv.c hR hΨ,?_,?_,by simp[inv.lsize],?_,?_,?_,?_,?_,?_⟩
 ·cases hd:o'.dst<;>simp[Act.put,inv.size]
 ·cases hd:o'.dst<;>simp[Act.put,inv.defers]
 ·intro j oj hj hl e he hb
  rcases hset j hl with rfl|hl
  ·have:oj=o':=by rw[ho] at hj;injection hj with h;exact h.symm
   subst this
   exact getD_set_true (hall e he hb)
  ·exact getD_set_true (inv.down j oj hj hl e he hb)
 ·intro j hj hl d hd
  by_cases hji:j=i
  ·subst hji
   rw[hput d (by rw[<-hwi,hd])]
   exact hΨ
  ·rw[hkeep d (hother j hj hji d hd)]
   exact hclosed j hj hji _ (inv.val j hj ((hset j hl).resolve_left hji) d hd)
 ·intro j hj hl hd
  by_cases hji:j=i
  ·subst hji;exact⟨u,hΨ⟩
  ·obtain⟨u',hu'⟩:=inv.eff j hj ((hset j hl).resolve_left hji) hd
   exact⟨u',hclosed j hj hji _ hu'⟩
 ·intro s hs
  have h1:o'.dst≠some s:=by
   have:=hs i hi (by simp[hil])
   rwa [hwi] at this
  rw[hkeep s h1]
  exact inv.old s fun j hj hl=>hs j hj (getD_set_true hl)
 ·intro j oj d hj hl hoj hal hd x hx
  by_cases hji:j=i
  ·subst hji
   have:oj=o':=by rw[ho] at hoj;injection hoj with h;exact h.symm
   subst this
   rw[hput d hd] at hx
   rcases hnew hal with h|⟨b,h,_,hb⟩
   ·rw[h] at hx;simp[undef] at hx
   ·rw[h] at hx;injection hx with hx;injection hx with hx;subst hx;exact hb
  ·have hne:=hother j hj hji d (by simp[Bf,hoj,hd])
   rw[hkeep d hne] at hx
   exact Nat.lt_of_lt_of_le (inv.new j oj d hj ((hset j hl).resolve_left hji) hoj hal hd x hx) hR.size
 ·intro j oj d k ok d' hj hk hjk hlj hlk hoj hok' haj hak hd hd' x hx hx'
  by_cases hji:j=i
  ·subst hji
   have:oj=o':=by rw[ho] at hoj;injection hoj with h;exact h.symm
   subst this
   rw[hput d hd] at hx
   have hne:=hother k hk (Ne.symm hjk) d' (by simp[Bf,hok',hd'])
   rw[hkeep d' hne] at hx'
   have h2:=inv.new k ok d' hk ((hset k hlk).resolve_left (Ne.symm hjk)) hok' hak hd' x hx'
   rcases hnew haj with h|⟨b,h,hb,_⟩
   ·rw[h] at hx;simp[undef] at hx
   ·rw[h] at hx;injection hx with hx;injection hx with hx;subst hx;simp at h2;omega
  ·by_cases hki:k=i
   ·subst hki
    have:ok=o':=by rw[ho] at hok';injection hok' with h;exact h.symm
    subst this
    rw[hput d' hd'] at hx'
    have hne:=hother j hj hji d (by simp[Bf,hoj,hd])
    rw[hkeep d hne] at hx
    have h2:=inv.new j oj d hj ((hset j hlj).resolve_left hji) hoj haj hd x hx
    rcases hnew hak with h|⟨b,h,hb,_⟩
    ·rw[h] at hx';simp[undef] at hx'
    ·rw[h] at hx';injection hx' with hx';injection hx' with hx';subst hx';simp at h2;omega
   ·have hne:=hother j hj hji d (by simp[Bf,hoj,hd])
    have hne':=hother k hk hki d' (by simp[Bf,hok',hd'])
    rw[hkeep d hne] at hx
    rw[hkeep d' hne'] at hx'
    exact inv.apart j oj d k ok d' hj hk hjk ((hset j hlj).resolve_left hji) ((hset k hlk).resolve_left hki) hoj hok' haj hak hd hd' x hx hx'
theorem inv_stepS {m i:Nat} {Ψ:Nat->Bi} {listed:Array Bool} {a:Act} {w:World} (hok:Ok ops n m) (hm:m=a0.tmps.size) (hC:∀i,i<n->∀u w w',C w->Rex (Fi X i) w w'->Ψ i u w'->C w')
  (hcl:∀i,i<n->A9 (Bn X i) (Ψ i)) (hop:∀i o,i<n->ops[i]? =some o->Rp P ops C (Fi X i) (Af a0 (Ds ops Ψ i)) o (Ψ i))
  (inv:Inv ops C a0 n Ψ listed a w) (hr:i∈Region.ready .any ops listed) (hi:i<n):
  wpOp P ops Q i (Inv ops C a0 n Ψ (listed.setIfInBounds i true)) a w:=by
 obtain⟨_,o,ho,_⟩:=mem_ready.1 hr
 obtain⟨h1,h2⟩:=hop i o hi ho a w inv.c (Qr hok inv hr hi ho)
 unfold wpOp
 simp only[ho]
 by_cases hw:Region.wanted o (yielded ops a.tmps)=true
 ·simp only[hw,if_true]
  refine .inl ?_
  have h1:=h1 hw
  unfold Oper.wp
  generalize (execOp a.eval o).run P w=r at h1
  cases r with
  |ok x w'=>
   cases x<;>simp only[Ml] at h1<;>simp only[Oper.upon]
   case value u=>exact Jw hok hm hC hcl inv hr hi ho h1.1 h1.2.1 fun ha=> .inr (h1.2.2 ha)
   case skip=>exact Jw hok hm hC hcl inv hr hi ho h1.1 h1.2.1 fun ha=>by rw[h1.2.2] at ha;cases ha
   case enter f args=>
    obtain⟨rfl,hna,hc⟩:=h1
    refine hc.mono fun e w'' ⟨u,he,hR,hΦ⟩=> ?_
    subst he
    exact Jw hok hm hC hcl inv hr hi ho hR hΦ fun ha=>by rw[hna] at ha;cases ha
  |halt x w'=>simp only[Ml] at h1
 ·have hw':Region.wanted o (yielded ops a.tmps)=false:=by simpa using hw
  simp only[hw',Bool.false_eq_true,if_false]
  exact Jw hok hm hC hcl inv hr hi ho (Rex.refl _ _) (h2 hw') fun _=> .inl rfl
theorem Yw {m:Nat} {Ψ:Nat->Bi} (hok:Ok ops n m) (hm:m=a0.tmps.size) (hC:∀i,i<n->∀u w w',C w->Rex (Fi X i) w w'->Ψ i u w'->C w')
  (hcl:∀i,i<n->A9 (Bn X i) (Ψ i)) (hop:∀i o,i<n->ops[i]? =some o->Rp P ops C (Fi X i) (Af a0 (Ds ops Ψ i)) o (Ψ i))
  (hQ:∀c a d v w,Q (.panic c) (Act.put a d v) w->Q (.panic c) a w)
  (hFin:∀a w,(∃listed,Inv ops C a0 n Ψ listed a w/\∀i,i<n->listed.getD i false=true)->wpList P ops Q (ops.toList.drop n) a w):
  ∀(f:Nat) (listed:Array Bool) (a:Act) (w:World),Inv ops C a0 n Ψ listed a w->listed.toList.count false=f->
   (∀i o,i<n->ops[i]? =some o->Fz o=false->listed.getD i false=true)->(∀t,n<=t->listed.getD t false=false)->wpAny P .any ops Q f listed a w:=by
 intro f
 induction f with
 |zero=>
  intro listed a w inv hcnt hnp htl
  have hall:∀i,i<ops.size->listed.getD i false=true:=by
   intro i hi
   have h0:¬false∈listed.toList:=by rw[<-List.count_eq_zero];exact hcnt
   have hi':i<listed.size:=by rw[inv.lsize];exact hi
   cases hb:listed[i] with
   |true=>simp[hi',hb]
   |false=>exact absurd (by rw[<-hb];exact Array.mem_toList_iff.2 (Array.getElem_mem hi')) h0
  have hn:n=ops.size:=by
   rcases Nat.lt_or_ge n ops.size with h|h
   ·have:=htl n (Nat.le_refl _);rw[hall n h] at this;cases this
   ·exact Nat.le_antisymm hok.le h
  have hready:Region.ready .any ops listed= []:=by
   apply List.eq_nil_iff_forall_not_mem.2
   intro k hk
   obtain⟨h1,o,ho,_⟩:=mem_ready.1 hk
   have hk':=(Array.getElem?_eq_some_iff.1 ho).1
   have h2:=hall k hk'
   simp[inv.lsize,hk'] at h1 h2
   rw[h1] at h2;cases h2
  have:=hFin a w ⟨listed,inv,fun i hi=>hall i (by omega)⟩
  rw[hn,List.drop_eq_nil_of_le (by simp)] at this
  exact⟨hready,this⟩
 |succ f ih=>
  intro listed a w inv hcnt hnp htl
  by_cases hbody:∀i,i<n->listed.getD i false=true
  ·--only the tail is left
   have hl:listed=(Array.replicate n true)++Array.replicate (ops.size-n) false:=by
    have hle:=hok.le
    apply Array.ext
    ·simp[inv.lsize];omega
    ·intro i h1 h2
     by_cases hi:i<n
     ·have:=hbody i hi
      simp[h1] at this
      simp[hi,this]
     ·have:=htl i (by omega)
      simp[h1] at this
      simp[Array.getElem_append,hi,this]
   have hc:listed.toList.count false=ops.size-n:=by
    rw[hl];simp[List.count_replicate]
   have hseq:=hok.seq
   unfold Nt at hseq
   rw[<-hl] at hseq
   have hlen:(ops.toList.drop n).length=ops.size-n:=by simp
   have:=wpAny_of_seq (P:=P) (md:= .any) (Q':=Q) (ops.toList.drop n) n listed a w (fun j=>by rw[List.getElem?_drop];simp) (by rw[hlen];exact hseq) (hFin a w ⟨listed,inv,hbody⟩)
   rw[hlen] at this
   have he:ops.size-n=f+1:=by omega
   rwa [he] at this
  ·obtain⟨i0,hi0⟩:=Classical.not_forall.1 hbody
   obtain⟨hi0n,hi0l⟩:=Classical.not_imp.1 hi0
   have hle:=hok.le
   obtain⟨k,hk1,hk2,hk3⟩:=Jf hok inv.lsize i0 (by omega) (by simpa using hi0l)
   obtain⟨hun,o,ho,_⟩:=mem_ready.1 hk2
   have hks:k<listed.size:=by rw[inv.lsize];exact(Array.getElem?_eq_some_iff.1 ho).1
   have hunf:=Co hks hun
   have hp:Fz o=true:=by
    cases h:Fz o with
    |true=>rfl
    |false=>have:=hnp k o (by omega) ho h;rw[hunf] at this;cases this
   obtain⟨h1,h2⟩:=hop k o (by omega) ho a w inv.c (Qr hok inv hk2 (by omega) ho)
   have hapart:∀j oj,ops[j]? =some oj->j≠k->listed.getD j true=false->(∀e∈oj.after,Region.binds .any e=true->e.on≠k)->o.apart ops oj=true:=by
    intro j oj hj hjk hjl hno
    have hjs:j<listed.size:=by rw[inv.lsize];exact(Array.getElem?_eq_some_iff.1 hj).1
    have hkj:k<j:=by
     rcases Nat.lt_or_ge j k with h|h
     ·have:=hk3 j h;rw[Co hjs hjl] at this;cases this
     ·omega
    rcases hok.late k o (by omega) ho with⟨_,h⟩|⟨h,_⟩
    ·refine h j oj hj hkj ?_
     cases hd:Qe ops j k with
     |false=>rfl
     |true=>
      simp only[Qe,hj] at hd
      obtain⟨e,hem,hb⟩:=Array.any_eq_true'.1 hd
      simp only[Bool.and_eq_true,beq_iff_eq] at hb
      exact absurd hb.2 (hno e hem hb.1)
    ·rw[hp] at h;cases h
   have hcnt':(listed.setIfInBounds k true).toList.count false=f:=by
    have hg:listed.toList[k]? =some false:=by simp[hks] at hunf;simp[hks,hunf]
    have:=Hm listed.toList k hg
    rw[Array.toList_setIfInBounds];omega
   have hrest:∀v,Inv ops C a0 n Ψ (listed.setIfInBounds k true) (a.put o.dst v) w->wpAny P .any ops Q f (listed.setIfInBounds k true) (a.put o.dst v) w:=fun v hinv=>
    ih _ _ _ hinv hcnt' (fun i oi hi hoi hpi=>getD_set_true (hnp i oi hi hoi hpi)) (fun t ht=>by rw[getD_set_ne false (by omega)];exact htl t ht)
   by_cases hw:Region.wanted o (yielded ops a.tmps)=true
   ·obtain⟨v,hv,hrun⟩:=Py hp (h1 hw)
    refine wpAny_first ho (Region.noSelect_spec hok.nosel) (fun c a w h=>hQ c a _ _ w h) f listed a w hapart hk2 (.inl ⟨hw,hrun⟩) (hrest v ?_)
    exact Jw hok hm hC hcl inv hk2 (by omega) ho (Rex.refl _ _) hv fun ha=>by
     unfold Au at ha;unfold Fz at hp;cases hop:o.op<;>rw[hop] at ha hp<;>simp at ha hp
   ·have hw':Region.wanted o (yielded ops a.tmps)=false:=by simpa using hw
    refine wpAny_first ho (Region.noSelect_spec hok.nosel) (fun c a w h=>hQ c a _ _ w h) f listed a w hapart hk2 (.inr ⟨hw',rfl⟩) (hrest undef ?_)
    exact Jw hok hm hC hcl inv hk2 (by omega) ho (Rex.refl _ _) (h2 hw') fun _=> .inl rfl
theorem nd_anyS {m:Nat} {Ψ:Nat->Bi} (hok:Ok ops n m) (hm:m=a0.tmps.size) (hC:∀i,i<n->∀u w w',C w->Rex (Fi X i) w w'->Ψ i u w'->C w')
  (hcl:∀i,i<n->A9 (Bn X i) (Ψ i)) (hop:∀i o,i<n->ops[i]? =some o->Rp P ops C (Fi X i) (Af a0 (Ds ops Ψ i)) o (Ψ i))
  (hQ:∀c a d v w,Q (.panic c) (Act.put a d v) w->Q (.panic c) a w)
  (hFin:∀a w,(∃listed,Inv ops C a0 n Ψ listed a w/\∀i,i<n->listed.getD i false=true)->wpList P ops Q (ops.toList.drop n) a w):
  ∀(f:Nat) (listed:Array Bool) (a:Act) (w:World),Inv ops C a0 n Ψ listed a w->listed.toList.count false=f->(∀t,n<=t->listed.getD t false=false)->wpAny P .any ops Q f listed a w:=by
 intro f
 induction f with
 |zero=>exact fun listed a w inv hcnt htl=>Yw hok hm hC hcl hop hQ hFin 0 listed a w inv hcnt (fun i o hi ho _=>by
   have h0:¬false∈listed.toList:=by rw[<-List.count_eq_zero];exact hcnt
   have hi':i<listed.size:=by rw[inv.lsize];exact(Array.getElem?_eq_some_iff.1 ho).1
   cases hb:listed[i] with
   |true=>simp[hi',hb]
   |false=>exact absurd (by rw[<-hb];exact Array.mem_toList_iff.2 (Array.getElem_mem hi')) h0) htl
 |succ f ih=>
  intro listed a w inv hcnt htl
  by_cases hnp:∀i o,i<n->ops[i]? =some o->Fz o=false->listed.getD i false=true
  ·exact Yw hok hm hC hcl hop hQ hFin (f+1) listed a w inv hcnt hnp htl
  ·have:∃i o,i<n/\ops[i]? =some o/\Fz o=false/\listed.getD i false=false:=by
    apply Classical.byContradiction
    intro hno
    exact hnp fun i o hi ho hp=>by
     cases h:listed.getD i false with
     |true=>rfl
     |false=>exact absurd ⟨i,o,hi,ho,hp,h⟩ hno
   obtain⟨i0,o0,hi0,ho0,hp0,hl0⟩:=this
   have hle:=hok.le
   obtain⟨k,hk1,hk2,hk3⟩:=Jf hok inv.lsize i0 (by omega) hl0
   refine⟨fun h=>(by rw[h] at hk2;cases hk2),fun i hi=> ?_⟩
   have hin:i<n:=by
    rcases Nat.lt_or_ge i n with h|h
    ·exact h
    ·obtain⟨_,o,ho,hall⟩:=mem_ready.1 hi
     rcases hok.late i0 o0 hi0 ho0 with⟨h',_⟩|⟨_,h'⟩
     ·rw[hp0] at h';cases h'
     ·have:=Sv inv 8 i i0 o ho hall (h' i h (Array.getElem?_eq_some_iff.1 ho).1)
      rw[hl0] at this;cases this
   refine wpOp_mono (fun a' w' hinv=>ih _ a' w' hinv ?_ fun t ht=>by rw[getD_set_ne false (by omega)];exact htl t ht) (inv_stepS hok hm hC hcl hop inv hi hin)
   obtain⟨hun,o,ho,_⟩:=mem_ready.1 hi
   have his:i<listed.size:=by rw[inv.lsize];exact(Array.getElem?_eq_some_iff.1 ho).1
   have hunf:=Co his hun
   have hg:listed.toList[i]? =some false:=by simp[his] at hunf;simp[his,hunf]
   have:=Hm listed.toList i hg
   rw[Array.toList_setIfInBounds];omega
theorem S6 {id:Nat} {l:List Oper} {w0:World} (n m b:Nat) (C:World->Prop) (hf:P.follows .mixedOrders=true) (hB:okB l.toArray (n+1) m=true) (hm:m=a0.tmps.size)
  (h0:C w0.drew) (hC:∀w w',C w->Rex [] w w'->C w') (hQ:∀c a d v w,Q (.panic c) (Act.put a d v) w->Q (.panic c) a w) (o:Oper) (ho:l.toArray[n]? =some o)
  (h:Ao P l.toArray C [(n,b)] a0 (fun acc=>∃Φ:Bi,A9 [] Φ/\Rp P l.toArray C [b] (Af a0 acc) o Φ/\(∀u w,Φ u w->C w)/\∀w,C w->A6 w a0 ((o.dst,Φ)::acc) fun a=>wpList P l.toArray Q (l.drop (n+1)) a w) 0 (l.take n) []):
  (Code.region id l.toArray true).wp P Q a0 w0:=by
 have hok:=Ur hB
 have hle:n+1<=l.length:=by have:=hok.le;simpa using this
 obtain⟨Ψ0,_,h2,h3⟩:=O2 (ops:=l.toArray) (l.take n) 0 [] (fun _ _ _=>True) (fun j hj=>by simp at hj;simp[hj]) rfl h
 have hlen:0+(l.take n).length=n:=by simp;omega
 rw[hlen] at h3
 obtain⟨Φ,hc1,ho1,hΦC,hfin0⟩:=h3
 have pn:Fi [(n,b)] n= [b]:=by simp[Fi]
 have on:Bn [(n,b)] n= []:=by simp[Bn]
 have pi:∀i,i≠n->Fi [(n,b)] i= []:=fun i hi=>by simp[Fi];omega
 obtain⟨Ψ,hΨ⟩:∃Ψ:Nat->Bi,Ψ=fun i=>if i=n then Φ else Ψ0 i:=⟨_,rfl⟩
 have hΨn:Ψ n=Φ:=by rw[hΨ];simp
 have hΨi:∀i,i<n->Ψ i=Ψ0 i:=fun i hi=>by rw[hΨ];simp;omega
 have hacc:∀k,k<=n->Ds l.toArray Ψ k=Ds l.toArray Ψ0 k:=fun k hk=>Jg k fun i hi=>hΨi i (by omega)
 have hcl:∀i,i<n+1->A9 (Bn [(n,b)] i) (Ψ i):=fun i hi=>by
  by_cases hin:i=n
  ·subst hin;rw[hΨn,on];exact hc1
  ·rw[hΨi i (by omega)];exact(h2 i (by omega) (by omega)).1
 have hop:∀i o,i<n+1->l.toArray[i]? =some o->Rp P l.toArray C (Fi [(n,b)] i) (Af a0 (Ds l.toArray Ψ i)) o (Ψ i):=fun i o1 hi ho'=>by
  by_cases hin:i=n
  ·subst hin
   rw[ho] at ho';injection ho' with e;subst e
   rw[hΨn,pn,hacc i (Nat.le_refl _)];exact ho1
  ·obtain⟨_,o',ho'',h⟩:=h2 i (by omega) (by omega)
   rw[ho''] at ho';injection ho' with e;subst e
   rw[hΨi i (by omega),hacc i (by omega)];exact h
 have hCC:∀i,i<n+1->∀u w w',C w->Rex (Fi [(n,b)] i) w w'->Ψ i u w'->C w':=fun i hi u w w' hw hR hu=>by
  by_cases hin:i=n
  ·subst hin;rw[hΨn] at hu;exact hΦC u w' hu
  ·rw[pi i hin] at hR;exact hC w w' hw hR
 refine wp_region_any hf ?_
 refine nd_anyS (X:= [(n,b)]) hok hm hCC hcl hop hQ ?_ _ _ _ _ ⟨h0,rfl,rfl,by simp,?_,?_,?_,?_,?_,?_⟩ (by simp) (fun t _=>getD_replicate_false _ t)
 ·rintro a w ⟨listed,inv,hall⟩
  have hex:∀i,∃v,i<n+1->Ψ i v w/\∀d,Bf l.toArray i=some d->v=a.tmps.getD d undef:=by
   intro i
   by_cases hi:i<n+1
   ·cases hd:Bf l.toArray i with
    |none=>
     obtain⟨u,hu⟩:=inv.eff i hi (hall i hi) hd
     exact⟨u,fun _=>⟨hu,fun d h=>by cases h⟩⟩
    |some d=>exact⟨a.tmps.getD d undef,fun _=>⟨inv.val i hi (hall i hi) d hd,fun d' h=>by injection h with h;rw[h]⟩⟩
   ·exact⟨undef,fun h=>absurd h hi⟩
  let val:Nat->Value:=fun i=>(hex i).choose
  have hval:∀i,i<n+1->Ψ i (val i) w/\∀d,Bf l.toArray i=some d->val i=a.tmps.getD d undef:=fun i hi=>(hex i).choose_spec hi
  have ha:a=Hr l.toArray val a0 (n+1):=by
   have ht:a.tmps=(Hr l.toArray val a0 (n+1)).tmps:=by
    apply Array.ext
    ·rw[L5,inv.size]
    ·intro s h1 h2
     have hg:a.tmps.getD s undef=(Hr l.toArray val a0 (n+1)).tmps.getD s undef:=by
      by_cases hw:∃i,i<n+1/\Bf l.toArray i=some s
      ·obtain⟨i,hi,hw⟩:=hw
       rw[Pb hok hm val s (n+1) (Nat.le_refl _) i hi hw,(hval i hi).2 s hw]
      ·rw[Pc val s (n+1) fun i hi hwi=>hw ⟨i,hi,hwi⟩]
       exact inv.old s fun i hi _ hwi=>hw ⟨i,hi,hwi⟩
     simpa [h1,h2] using hg
   have hd:a.defers=(Hr l.toArray val a0 (n+1)).defers:=by rw[Lc,inv.defers]
   cases a;cases hp:Hr l.toArray val a0 (n+1);rw[hp] at ht hd;simp at ht hd;subst ht;subst hd;rfl
  have hlast:Ds l.toArray Ψ (n+1)=(o.dst,Φ)::Ds l.toArray Ψ0 n:=by
   show (Bf l.toArray n,Ψ n)::Ds l.toArray Ψ n=_
   rw[hΨn,hacc n (Nat.le_refl _)]
   simp[Bf,ho]
  have hfin1:=hfin0 w inv.c
  rw[<-hlast] at hfin1
  have hfin:=fin_of (ops:=l.toArray) (a0:=a0) (val:=val) (n+1) _ (fun i hi=>(hval i hi).1) hfin1
  rw[<-ha] at hfin
  simpa using hfin
 ·intro i o ho hl;rw[getD_replicate_false] at hl;cases hl
 ·intro i hi hl;rw[getD_replicate_false] at hl;cases hl
 ·intro i hi hl;rw[getD_replicate_false] at hl;cases hl
 ·intro s _;rfl
 ·intro i o d hi hl;rw[getD_replicate_false] at hl;cases hl
 ·intro i o d j o' d' hi hj hij hl;rw[getD_replicate_false] at hl;cases hl
end
def RowS (B:Nat) (e:TypeId) (n k:Nat) (news:List Value):Bi:=fun v w=>∃g cap cur,v= .slice (some ⟨g,0,none⟩) n cap/\B<=g/\Blk w g cur e/\n<=cap/\cur.toList.take k=news
theorem RowS.closed (B:Nat) (e:TypeId) (n k:Nat) (news:List Value):A9 [] (RowS B e n k news):=fun _ _ _ hr ⟨g,c,cur,e1,h1,h,h2,h3⟩=>⟨g,c,cur,e1,h1,h.rex hr (by simp),h2,h3⟩
def PtS (B N:Nat) (l:List (Int×Int)):Bi:=fun v w=>(v= .slice none 0 0/\l= []/\N=0)∨RowS B 58 N (N*2) (Ax l) v w
theorem PtS.closed (B N:Nat) (l:List (Int×Int)):A9 [] (PtS B N l):=fun _ _ _ hr h=>by
 rcases h with h|h
 ·exact .inl h
 ·exact .inr (RowS.closed _ _ _ _ _ _ _ _ hr h)
def Yn (s:Aw):Aw:=⟨s.K,s.runs.take 257,s.A,s.R,s.n,s.d,s.raw.take 257,s.E⟩
structure Oy (W:World) (g:Nat) (r0 r:Cn):Prop where
 says:r.s=Yn r0.s
 runs:Al W r.p r.s.runs
 raw:A3 W r.q r.s.raw
 capV:r.s.raw.length<=r.vc
 farR:∀a,r.p=some a->g<a.block
 farV:∀a,r.q=some a->g<a.block
theorem Oy.rex {W W':World} {g:Nat} {r0 r:Cn} {L:List Nat} (h:Oy W g r0 r) (hL:∀x,x∈L->x<=g) (hr:Rex L W W'):Oy W' g r0 r:=⟨h.says,h.runs.rex1 hL h.farR hr,h.raw.rex1 hL h.farV hr,h.capV,h.farR,h.farV⟩
structure Ko (W:World) (g:Nat) (rows R:List Cn) (i:Nat):Prop where
 len:R.length=rows.length
 rest:∀k,i<=k->R[k]? =rows[k]?
 own:∀k,k<i->∀r,R[k]? =some r->∃r0,rows[k]? =some r0/\Oy W g r0 r
theorem Ko.start (W:World) (g:Nat) (rows:List Cn):Ko W g rows rows 0:=⟨rfl,fun _ _=>rfl,fun k h=>by omega⟩
theorem Ko.rex {W W':World} {g i:Nat} {rows R:List Cn} {L:List Nat} (h:Ko W g rows R i) (hL:∀x,x∈L->x<=g) (hr:Rex L W W'):Ko W' g rows R i:=⟨h.len,h.rest,fun k hk r hR=>by
 obtain⟨r0,h1,h2⟩:=h.own k hk r hR
 exact⟨r0,h1,h2.rex hL hr⟩⟩
theorem Ko.step {W:World} {g i:Nat} {rows R:List Cn} {r0 r1:Cn} (h:Ko W g rows R i) (h0:rows[i]? =some r0) (h1:Oy W g r0 r1):Ko W g rows (R.set i r1) (i+1):=⟨by rw[List.length_set];exact h.len,fun k hk=>by rw[List.getElem?_set_ne (by omega)];exact h.rest k (by omega),fun k hk r hR=>by
 rw[List.getElem?_set] at hR
 split at hR
 ·rename_i e
  subst e
  split at hR
  ·injection hR with hR
   subst hR
   exact⟨r0,h0,h1⟩
  ·cases hR
 ·exact h.own k (by omega) r hR⟩
structure Cc (w:World) (B:Nat) (p:Option Addr) (l:List (Int×Int)):Prop where
 at':(p=none/\l= [])∨∃g cur k,p=some ⟨g,0,none⟩/\B<=g/\Blk w g cur 58/\cur.toList.take k=Ax l
theorem Cc.pts {w:World} {B:Nat} {p:Option Addr} {l:List (Int×Int)} (h:Cc w B p l):Ar w p l:=by
 rcases h.at' with⟨rfl,rfl⟩|⟨g,cur,k,rfl,_,hb,ht⟩
 ·exact⟨fun i r hr=>by simp at hr⟩
 ·exact Pd hb ht
theorem Cc.keep {w w':World} {B:Nat} {p:Option Addr} {l:List (Int×Int)} (h:Cc w B p l) (hk:∀g cs,B<=g->Blk w g cs 58->Blk w' g cs 58):Cc w' B p l:=by
 rcases h.at' with h|⟨g,cur,k,e,hB,hb,ht⟩
 ·exact⟨.inl h⟩
 ·exact⟨.inr ⟨g,cur,k,e,hB,hk g cur hB hb,ht⟩⟩
theorem Cc.below {w w':World} {B:Nat} {p:Option Addr} {l:List (Int×Int)} (h:Cc w B p l) (hb:Below w.heap.size w w'):Cc w' B p l:=h.keep fun _ _ _ h=>h.below hb
theorem Cc.mono {w:World} {B B':Nat} {p:Option Addr} {l:List (Int×Int)} (h:Cc w B p l) (hB:B'<=B):Cc w B' p l:=by
 rcases h.at' with h|⟨g,cur,k,e,h1,hb,ht⟩
 ·exact⟨.inl h⟩
 ·exact⟨.inr ⟨g,cur,k,e,Nat.le_trans hB h1,hb,ht⟩⟩
theorem Cc.setO {w:World} {B o:Nat} {p:Option Addr} {l:List (Int×Int)} (h:Cc w B p l) (ho:o<B) (i:Nat) (v:Value):Cc (w.setCell ⟨o,i,none⟩ v) B p l:=h.keep fun g _ hg h=>h.setO (by omega) i v
theorem Cc.low {w w':World} {B:Nat} {p:Option Addr} {l:List (Int×Int)} {L:List Nat} (h:Cc w B p l) (hL:∀x,x∈L->x<B) (hr:Rex L w w'):Cc w' B p l:=h.keep fun g c hB hg=>hg.rex hr fun hm=>by have:=hL _ hm;omega
def Lasts (B:Nat) (w:World) (F:World->Prop):Prop:=∀L W,(∀x,x∈L->x<B)->Rex L w W->F W
theorem Lasts.now {B:Nat} {w:World} {F:World->Prop} (h:Lasts B w F):F w:=h [] w (fun x hx=>by cases hx) (Rex.refl _ _)
theorem Cc.rex {w w':World} {B gS:Nat} {cs:Array Value} {p:Option Addr} {l:List (Int×Int)} (h:Cc w B p l) (hS:Blk w gS cs 135) (hr:Rex [gS] w w'):Cc w' B p l:=h.keep fun g c _ hg=>hg.rex hr (by
 simp
 rintro rfl
 unfold Blk at hg hS
 rw[hS] at hg
 injection hg with hg
 injection hg with _ h2 _
 revert h2
 decide)
theorem PtS.form {B N:Nat} {l:List (Int×Int)} {v:Value} {w:World} (h:PtS B N l v w):∃p cap,v= .slice p N cap/\Cc w B p l/\N<=cap:=by
 rcases h with⟨rfl,rfl,rfl⟩|⟨g,cap,cur,rfl,hg,hb,hc,ht⟩
 ·exact⟨none,0,rfl,⟨.inl ⟨rfl,rfl⟩⟩,Nat.le_refl _⟩
 ·exact⟨_,cap,rfl,⟨.inr ⟨g,cur,_,rfl,hg,hb,ht⟩⟩,hc⟩
def RunC (B K:Nat) (l:List Ah):Bi:=fun v w=>∃p c,v= .slice p K c/\Al w p l/\K<=c/\∀a,p=some a->B<=a.block
theorem RunC.closed (B K:Nat) (l:List Ah):A9 [] (RunC B K l):=fun _ _ _ hr ⟨p,c,e,h,h2⟩=>⟨p,c,e,h.rex hr rfl,h2⟩
def IntC (B K:Nat) (l:List Int):Bi:=fun v w=>∃p c,v= .slice p K c/\A3 w p l/\K<=c/\∀a,p=some a->B<=a.block
theorem IntC.closed (B K:Nat) (l:List Int):A9 [] (IntC B K l):=fun _ _ _ hr ⟨p,c,e,h,h2⟩=>⟨p,c,e,h.below hr.below,h2⟩
theorem RunC.closedL (B K:Nat) (l:List Ah) {L:List Nat} (hL:∀x,x∈L->x<B):A9 L (RunC B K l):=fun v w w' hr ⟨p,c,e,h,h2,h3⟩=>⟨p,c,e,⟨fun i r hi=>by
 obtain⟨b,o,e1,q0,q1,q2⟩:=h.at' i r hi
 have hb:=h3 _ e1
 have key:∀z v,w.cell? ⟨b,z,none⟩=some v->w'.cell? ⟨b,z,none⟩=some v:=fun z v hv=>(World.cell?_of_block (hr.block b (Ap hv) (fun hx=>by have:=hL _ hx;simp at hb;omega))).trans hv
 exact⟨b,o,e1,key _ _ q0,key _ _ q1,key _ _ q2⟩⟩,h2,h3⟩
theorem IntC.closedL (B K:Nat) (l:List Int) {L:List Nat} (hL:∀x,x∈L->x<B):A9 L (IntC B K l):=fun v w w' hr ⟨p,c,e,h,h2,h3⟩=>⟨p,c,e,⟨fun i r hi=>by
 obtain⟨b,o,e1,q0⟩:=h.at' i r hi
 have hb:=h3 _ e1
 exact⟨b,o,e1,(World.cell?_of_block (hr.block b (Ap q0) (fun hx=>by have:=hL _ hx;simp at hb;omega))).trans q0⟩⟩,h2,h3⟩
def own26Rel (w:World) (nm9:ByteArray) (ep fl la sc:Int) (pP:Option Addr) (capP N:Nat) (rows:List Cn) (pts:List (Int×Int)) (M gS capS:Nat) (a':Act) (W:World):Prop:=
 Below w.heap.size w W/\Blk W w.heap.size #[.string nm9,.int .i64 ep,.int .i64 fl,.int .i64 la,.int .i64 sc,.slice (some ⟨gS,0,none⟩) M capS,.slice pP N capP] 79/\Blk W (w.heap.size+1) #[.string .empty,.int .i64 0,.int .i64 0,.int .i64 0,.int .i64 0,.slice none 0 0,.slice none 0 0] 79/\Cc W (w.heap.size+1+1) pP pts/\∃(i:Nat) (cur:Array Value) (R:List Cn),Blk W gS cur 135/\Ga cur R/\Ko W gS rows R i/\(∃u:Nat->Value,a'= {tmps:= #[u 0,.pointer (some ⟨w.heap.size,0,none⟩),.pointer (some ⟨w.heap.size+1,0,none⟩),u 3,u 4,u 5,u 6,u 7,u 8,u 9,u 10,u 11,u 12,u 13,u 14,u 15,u 16,u 17,u 18,u 19,u 20,u 21,u 22,u 23,u 24,u 25,u 26,u 27,u 28,u 29,u 30,u 31,.slice (some ⟨gS,0,none⟩) M capS,.int .i64 (M:Int),.int .i64 (i:Int),u 35,u 36,u 37,u 38,u 39,u 40,u 41,u 42,u 43,u 44,u 45,u 46,u 47,u 48,u 49,u 50,u 51,u 52,u 53,u 54,u 55,u 56,u 57,u 58,u 59,u 60,u 61,u 62,u 63,u 64,u 65,u 66],defers:= []})/\i<=M
def ownNRel (w:World) (nm9:ByteArray) (ep fl la sc:Int) (pP:Option Addr) (capP N:Nat) (pts:List (Int×Int)) (a':Act) (W:World):Prop:=
 Below w.heap.size w W/\Blk W w.heap.size #[.string nm9,.int .i64 ep,.int .i64 fl,.int .i64 la,.int .i64 sc,.slice none 0 0,.slice pP N capP] 79/\Blk W (w.heap.size+1) #[.string .empty,.int .i64 0,.int .i64 0,.int .i64 0,.int .i64 0,.slice none 0 0,.slice none 0 0] 79/\Cc W (w.heap.size+1+1) pP pts/\(∃u:Nat->Value,a'= {tmps:= #[u 0,.pointer (some ⟨w.heap.size,0,none⟩),.pointer (some ⟨w.heap.size+1,0,none⟩),u 3,u 4,u 5,u 6,u 7,u 8,u 9,u 10,u 11,u 12,u 13,u 14,u 15,u 16,u 17,u 18,u 19,u 20,u 21,u 22,u 23,u 24,u 25,u 26,u 27,u 28,u 29,u 30,u 31,.slice none 0 0,.int .i64 0,.int .i64 0,u 35,u 36,u 37,u 38,u 39,u 40,u 41,u 42,u 43,u 44,u 45,u 46,u 47,u 48,u 49,u 50,u 51,u 52,u 53,u 54,u 55,u 56,u 57,u 58,u 59,u 60,u 61,u 62,u 63,u 64,u 65,u 66],defers:= []})
def Xl (w:World) (p:Option Addr) (l:List Ah) (e:Ending) (w':World):Prop:=∃p' cap',e= .returned (.slice p' l.length cap')/\Below w.heap.size w w'/\Al w' p' l/\l.length<=cap'/\∀a,p'=some a->w.heap.size<=a.block/\a.off=0
def Xm (w:World) (p:Option Addr) (l:List Int) (e:Ending) (w':World):Prop:=∃p' cap',e= .returned (.slice p' l.length cap')/\Below w.heap.size w w'/\A3 w' p' l/\l.length<=cap'/\∀a,p'=some a->w.heap.size<=a.block/\a.off=0
theorem Tk (w:World):Calls Tryz.prog 82 #[.slice none 0 0] w (Xl w none []):=by
 go_enter Tryz.func82,Tryz.ntmps82
 have hnil:∀W,(binOp .eql 130 (.slice none 0 0) (.slice none 0 0)).run Tryz.prog W= .ok (.bool true) W:=fun W=>by kernel_rfl
 go_wp2
 go_ret
 exact⟨none,0,rfl,Aa,⟨fun i r hr=>by simp at hr⟩,by simp,fun a h=>by cases h⟩
theorem Sf (a:Addr) (cap:Nat) (l:List Ah) (w:World) (hl:l.length<=300) (h:Al w (some a) l):Calls Tryz.prog 82 #[.slice (some a) l.length cap] w (Xl w (some a) l):=by
 have hnil:∀W,(binOp .eql 130 (.slice (some a) l.length cap) (.slice none 0 0)).run Tryz.prog W= .ok (.bool false) W:=fun W=>Lib.run_eql_slice_nil W 130 141 _ _ _ _ _ (by kernel_rfl)
 go_enter Tryz.func82,Tryz.ntmps82
 go_upto_region 3 with(fail)
 clear hnil
 have hmk:∀W,(Instr.buildSlice 130 0 #[]).run Tryz.prog W= .ok (.slice (some ⟨W.heap.size,0,none⟩) 0 0) (W.alloc (.cells #[] 141)):=fun W=>by kernel_rfl
 obtain⟨i,hi,hz0,hz1,hz2⟩:=info_parts Tryz.infoRun
 have hW:Below w.heap.size w (w.alloc (.cells #[] 141)):=Aa
 have hown0:=World.ownsRow_made (e:=141) (size:=3) (base:=w.heap.size) w #[] 0 (Nat.le_refl _) (by simp[maxLen]) (by simp)
 go_wp2_with (at_builtin;refine wpList_append_own _ rfl (.tmp 5) (.tmp 6) 130 rfl w.heap.size 141 i _ 3 24 (by kernel_rfl) hi hz0 hz1 hz2 rfl (by omega) _ 0 [] rfl hown0 a l.length cap (As l) rfl (by rw[Dg]) ((h.below hW).flat) (fun v hv=>by obtain⟨x,rfl⟩:=R8 l v hv;rfl) (by simp[maxLen];omega) (by omega) (by simp) ?_)
 intro v' w' hown hgr _
 have hB:=Hd (Ln hgr)
 replace hown:=Hd hown
 clear hgr
 go_wp2
 go_ret
 obtain⟨_,h2|⟨g,cap',cur,rfl,hg,hb,hn,_,hc,ht⟩⟩:=hown.out
 ·obtain⟨rfl,h0⟩:=h2
  have h0':l.length=0:=by omega
  exact⟨none,0,by rw[h0'];rfl,hB.out,⟨fun i r hr=>by rw[List.getElem?_eq_none_iff.2 (by omega)] at hr;cases hr⟩,by omega,fun a h=>by cases h⟩
 ·exact⟨some ⟨g,0,none⟩,cap',by simp,hB.out,Lo hb (by simpa using ht),by omega,fun a h=>by cases h;exact⟨hg,rfl⟩⟩
theorem Tl (w:World):Calls Tryz.prog 83 #[.slice none 0 0] w (Xm w none []):=by
 go_enter Tryz.func83,Tryz.ntmps83
 have hnil:∀W,(binOp .eql 133 (.slice none 0 0) (.slice none 0 0)).run Tryz.prog W= .ok (.bool true) W:=fun W=>by kernel_rfl
 go_wp2
 go_ret
 exact⟨none,0,rfl,Aa,⟨fun i r hr=>by simp at hr⟩,by simp,fun a h=>by cases h⟩
theorem Sg (a:Addr) (cap:Nat) (l:List Int) (w:World) (hl:l.length<=300) (h:A3 w (some a) l):Calls Tryz.prog 83 #[.slice (some a) l.length cap] w (Xm w (some a) l):=by
 have hnil:∀W,(binOp .eql 133 (.slice (some a) l.length cap) (.slice none 0 0)).run Tryz.prog W= .ok (.bool false) W:=fun W=>Lib.run_eql_slice_nil W 133 2 _ _ _ _ _ (by kernel_rfl)
 go_enter Tryz.func83,Tryz.ntmps83
 go_upto_region 3 with(fail)
 clear hnil
 have hmk:∀W,(Instr.buildSlice 133 0 #[]).run Tryz.prog W= .ok (.slice (some ⟨W.heap.size,0,none⟩) 0 0) (W.alloc (.cells #[] 2)):=fun W=>by kernel_rfl
 obtain⟨i,hi,hz0,hz1,hz2⟩:=info_parts Tryz.infoInt
 have hW:Below w.heap.size w (w.alloc (.cells #[] 2)):=Aa
 have hown0:=World.ownsRow_made (e:=2) (size:=1) (base:=w.heap.size) w #[] 0 (Nat.le_refl _) (by simp[maxLen]) (by simp)
 go_wp2_with (at_builtin;refine wpList_append_own _ rfl (.tmp 5) (.tmp 6) 133 rfl w.heap.size 2 i _ 1 8 (by kernel_rfl) hi hz0 hz1 hz2 rfl (by omega) _ 0 [] rfl hown0 a l.length cap (l.map (Value.int .i64)) rfl (by simp) (fun j u hu=>ints_flat (h.below hW) j u hu) (fun v hv=>by simp only[List.mem_map] at hv;obtain⟨x,_,rfl⟩:=hv;rfl) (by simp[maxLen];omega) (by omega) (by simp) ?_)
 intro v' w' hown hgr _
 have hB:=Hd (Ln hgr)
 replace hown:=Hd hown
 clear hgr
 go_wp2
 go_ret
 obtain⟨_,h2|⟨g,cap',cur,rfl,hg,hb,hn,_,hc,ht⟩⟩:=hown.out
 ·obtain⟨rfl,h0⟩:=h2
  have h0':l.length=0:=by omega
  exact⟨none,0,by rw[h0'];rfl,hB.out,⟨fun i r hr=>by rw[List.getElem?_eq_none_iff.2 (by omega)] at hr;cases hr⟩,by omega,fun a h=>by cases h⟩
 ·exact⟨some ⟨g,0,none⟩,cap',by simp,hB.out,Lp hb (by simpa using ht),by omega,fun a h=>by cases h;exact⟨hg,rfl⟩⟩
theorem Z0 (p:Option Addr) (cap:Nat) (l:List Ah) (w:World) (hl:l.length<=300) (h:Al w p l) (hn:p=none->l.length=0/\cap=0):
  Calls Tryz.prog 82 #[.slice p l.length cap] w (Xl w p l):=by
 cases p with
 |none=>
  obtain⟨h1,rfl⟩:=hn rfl
  have e:l= []:=List.length_eq_zero_iff.1 h1
  subst e
  exact Tk w
 |some a=>exact Sf a cap l w hl h
theorem Z1 (p:Option Addr) (cap:Nat) (l:List Int) (w:World) (hl:l.length<=300) (h:A3 w p l) (hn:p=none->l.length=0/\cap=0):
  Calls Tryz.prog 83 #[.slice p l.length cap] w (Xm w p l):=by
 cases p with
 |none=>
  obtain⟨h1,rfl⟩:=hn rfl
  have e:l= []:=List.length_eq_zero_iff.1 h1
  subst e
  exact Tl w
 |some a=>exact Sg a cap l w hl h
structure Mg (W:World) (g:Nat) (r0 r:Cn):Prop where
 says:r.s=Yn r0.s
 runs:Al W r.p r.s.runs
 raw:A3 W r.q r.s.raw
 capV:r.s.raw.length<=r.vc
 farR:∀a,r.p=some a->g<a.block/\a.off=0
 farV:∀a,r.q=some a->g<a.block/\a.off=0
theorem Mg.rex {W W':World} {g:Nat} {r0 r:Cn} {L:List Nat} (h:Mg W g r0 r) (hL:∀x,x∈L->x<=g) (hr:Rex L W W'):Mg W' g r0 r:=⟨h.says,h.runs.rex1 hL (fun a e=>(h.farR a e).1) hr,h.raw.rex1 hL (fun a e=>(h.farV a e).1) hr,h.capV,h.farR,h.farV⟩
structure G9 (W:World) (g:Nat) (rows R:List Cn) (i:Nat):Prop where
 len:R.length=rows.length
 rest:∀k,i<=k->R[k]? =rows[k]?
 own:∀k,k<i->∀r,R[k]? =some r->∃r0,rows[k]? =some r0/\Mg W g r0 r
theorem G9.start (W:World) (g:Nat) (rows:List Cn):G9 W g rows rows 0:=⟨rfl,fun _ _=>rfl,fun k h=>by omega⟩
theorem G9.rex {W W':World} {g i:Nat} {rows R:List Cn} {L:List Nat} (h:G9 W g rows R i) (hL:∀x,x∈L->x<=g) (hr:Rex L W W'):G9 W' g rows R i:=⟨h.len,h.rest,fun k hk r hR=>by
 obtain⟨r0,h1,h2⟩:=h.own k hk r hR
 exact⟨r0,h1,h2.rex hL hr⟩⟩
theorem G9.step {W:World} {g i:Nat} {rows R:List Cn} {r0 r1:Cn} (h:G9 W g rows R i) (h0:rows[i]? =some r0) (h1:Mg W g r0 r1):G9 W g rows (R.set i r1) (i+1):=⟨by rw[List.length_set];exact h.len,fun k hk=>by rw[List.getElem?_set_ne (by omega)];exact h.rest k (by omega),fun k hk r hR=>by
 rw[List.getElem?_set] at hR
 split at hR
 ·rename_i e
  subst e
  split at hR
  ·injection hR with hR
   subst hR
   exact⟨r0,h0,h1⟩
  ·cases hR
 ·exact h.own k (by omega) r hR⟩
def S0 (p:Option Addr):Prop:=∀a,p=some a->a.off=0
structure F9 (w:World) (g:Nat) (l:List Aw):Prop where
 at':∀(i:Nat) (s:Aw),l[i]? =some s->∃p' q' cap vc,(∀j v,(C9 s p' q' cap vc)[j]? =some v->w.cell? ⟨g,i*8+j,none⟩=some v)/\C0 w s p' q'/\s.raw.length<=vc/\S0 p'/\S0 q'
theorem F9.segs {w:World} {g:Nat} {l:List Aw} (h:F9 w g l):Kn w (some ⟨g,0,none⟩) l:=⟨fun i s hs=>by
 obtain⟨p',q',cap,vc,h1,h2,h3,_⟩:=h.at' i s hs
 exact⟨g,0,p',q',cap,vc,rfl,fun j v hv=>by rw[show 0+i*8+j=i*8+j by omega];exact h1 j v hv,h2,h3⟩⟩
theorem Cc.off {w:World} {B:Nat} {p:Option Addr} {l:List (Int×Int)} (h:Cc w B p l):S0 p:=fun a e=>by
 rcases h.at' with⟨h1,_⟩|⟨g,cur,k,h1,_⟩
 ·rw[h1] at e;cases e
 ·rw[h1] at e;injection e with e;rw[<-e]
theorem own_segsD {W W':World} {g i:Nat} {rows R:List Cn} {cur:Array Value} {L:List Nat} (hb:Blk W' g cur 135) (hSC:Ga cur R) (h:G9 W g rows R i) (hi:rows.length<=i) (hL:∀x,x∈L->x<=g) (hr:Rex L W W'):F9 W' g (rows.map fun r=>Yn r.s):=⟨fun k s hs=>by
 obtain⟨r0,h0,rfl⟩:∃r0,rows[k]? =some r0/\Yn r0.s=s:=by simpa using hs
 have hk:k<rows.length:=(List.getElem?_eq_some_iff.1 h0).1
 obtain⟨r,hR⟩:∃r,R[k]? =some r:=⟨_,List.getElem?_eq_getElem (by rw[h.len];exact hk)⟩
 obtain⟨r0',h0',ow⟩:=h.own k (by omega) r hR
 rw[h0] at h0'
 injection h0' with h0'
 subst h0'
 have ow':=ow.rex hL hr
 refine⟨r.p,r.q,r.cap,r.vc,fun j v hv=> ?_,?_,?_,fun a e=>(ow'.farR a e).2,fun a e=>(ow'.farV a e).2⟩
 ·rw[<-ow'.says] at hv
  exact(hb.cell _).trans (hSC k r hR j v hv)
 ·rw[<-ow'.says]
  exact⟨ow'.runs,ow'.raw,by rw[ow'.says];show (r0.s.runs.take 257).length<=300;rw[List.length_take];omega,by rw[ow'.says];show (r0.s.raw.take 257).length<=300;rw[List.length_take];omega⟩
 ·rw[<-ow'.says]
  exact ow'.capV⟩
def Qi (B K:Nat) (l:List Ah):Bi:=fun v w=>∃p c,v= .slice p K c/\Al w p l/\K<=c/\∀a,p=some a->B<=a.block/\a.off=0
theorem Qi.closed (B K:Nat) (l:List Ah):A9 [] (Qi B K l):=fun _ _ _ hr ⟨p,c,e,h,h2⟩=>⟨p,c,e,h.rex hr rfl,h2⟩
def IntD (B K:Nat) (l:List Int):Bi:=fun v w=>∃p c,v= .slice p K c/\A3 w p l/\K<=c/\∀a,p=some a->B<=a.block/\a.off=0
theorem IntD.closed (B K:Nat) (l:List Int):A9 [] (IntD B K l):=fun _ _ _ hr ⟨p,c,e,h,h2⟩=>⟨p,c,e,h.below hr.below,h2⟩
theorem Qi.closedL (B K:Nat) (l:List Ah) {L:List Nat} (hL:∀x,x∈L->x<B):A9 L (Qi B K l):=fun v w w' hr ⟨p,c,e,h,h2,h3⟩=>⟨p,c,e,⟨fun i r hi=>by
 obtain⟨b,o,e1,q0,q1,q2⟩:=h.at' i r hi
 have hb:=(h3 _ e1).1
 have key:∀z v,w.cell? ⟨b,z,none⟩=some v->w'.cell? ⟨b,z,none⟩=some v:=fun z v hv=>(World.cell?_of_block (hr.block b (Ap hv) (fun hx=>by have:=hL _ hx;simp at hb;omega))).trans hv
 exact⟨b,o,e1,key _ _ q0,key _ _ q1,key _ _ q2⟩⟩,h2,h3⟩
theorem IntD.closedL (B K:Nat) (l:List Int) {L:List Nat} (hL:∀x,x∈L->x<B):A9 L (IntD B K l):=fun v w w' hr ⟨p,c,e,h,h2,h3⟩=>⟨p,c,e,⟨fun i r hi=>by
 obtain⟨b,o,e1,q0⟩:=h.at' i r hi
 have hb:=(h3 _ e1).1
 exact⟨b,o,e1,(World.cell?_of_block (hr.block b (Ap q0) (fun hx=>by have:=hL _ hx;simp at hb;omega))).trans q0⟩⟩,h2,h3⟩
def own24RelD (w:World) (nm9:ByteArray) (ep fl la sc:Int) (pP:Option Addr) (capP N:Nat) (rows:List Cn) (pts:List (Int×Int)) (M gS capS:Nat) (a':Act) (W:World):Prop:=
 Below w.heap.size w W/\Blk W w.heap.size #[.string nm9,ep,fl,la,sc,.slice (some ⟨gS,0,none⟩) M capS,.slice pP N capP] 79/\Blk W (w.heap.size+1) #[.string .empty,.int .i64 0,.int .i64 0,.int .i64 0,.int .i64 0,.slice none 0 0,.slice none 0 0] 79/\Cc W (w.heap.size+1+1) pP pts/\∃(i:Nat) (cur:Array Value) (R:List Cn),Blk W gS cur 135/\Ga cur R/\G9 W gS rows R i/\(∃u:Nat->Value,a'= {tmps:= #[u 0,.pointer (some ⟨w.heap.size,0,none⟩),.pointer (some ⟨w.heap.size+1,0,none⟩),u 3,u 4,u 5,u 6,u 7,u 8,u 9,u 10,u 11,u 12,u 13,u 14,u 15,u 16,u 17,u 18,u 19,u 20,u 21,u 22,u 23,u 24,u 25,u 26,u 27,u 28,u 29,u 30,u 31,.slice (some ⟨gS,0,none⟩) M capS,.int .i64 (M:Int),.int .i64 (i:Int),u 35,u 36,u 37,u 38,u 39,u 40,u 41,u 42,u 43,u 44,u 45,u 46,u 47,u 48,u 49,u 50,u 51,u 52,u 53,u 54,u 55,u 56,u 57,u 58,u 59,u 60,u 61,u 62,u 63,u 64,u 65,u 66],defers:= []})/\i<=M

def ownSer (nm:ByteArray) (ep fl la sc:Int) (rows:List Cn) (pts:List (Int×Int)):A8:=⟨nm,ep,fl,la,sc,(rows.take (min rows.length 60)).map fun r=>ownG r.s,pts.take (min pts.length 60)⟩
structure Qz (w:World) (ps po:Option Addr) (cs co:Nat) (rows:List Cn) (pts:List (Int×Int)):Prop where
 segs:D5 w ps rows
 opn:Ar w po pts
 nilS:ps=none->rows.length=0/\cs=0
 nilO:po=none->pts.length=0/\co=0
 capS:rows.length<=cs
 capO:pts.length<=co
theorem Qz.below {w w':World} {ps po:Option Addr} {cs co:Nat} {rows:List Cn} {pts:List (Int×Int)} (h:Qz w ps po cs co rows pts) (hb:Below w.heap.size w w'):Qz w' ps po cs co rows pts:=⟨h.segs.below hb,h.opn.below hb,h.nilS,h.nilO,h.capS,h.capO⟩
def Ym (nm:ByteArray) (ep fl la sc:Int) (rows:List Cn) (pts:List (Int×Int)):A8:=⟨nm.extract 0 (mn (nm.size:Int) 20).toNat,ep,fl,la,sc,(rows.take (min rows.length 12)).map fun r=>Yn r.s,pts.take (min pts.length 40)⟩
structure Kz (w:World) (s:A8) (pS pP:Option Addr):Prop where
 inn:Dj w s pS pP
 segs:(pS=none/\s.segs= [])∨∃g,pS=some ⟨g,0,none⟩/\F9 w g s.segs
 off:S0 pP
theorem str_ne {w:World} {b g:Nat} {k:IntKind} {z:Int} (hz:∃s,w.cell? ⟨g,0,none⟩=some (.string s)) (h:w.cell? ⟨b,0,none⟩=some (.int k z)):b≠g:=by
 rintro rfl
 obtain⟨s,hs⟩:=hz
 rw[hs] at h
 cases h
theorem Gp {L:List Nat} {w w':World} (hr:Rex L w w') {b z:Nat} {v:Value} (h:w.cell? ⟨b,z,none⟩=some v) (hn:b∉L):w'.cell? ⟨b,z,none⟩=some v:=(World.cell?_of_block (hr.block b (Ap h) hn)).trans h
def StrL (w:World) (L:List Nat):Prop:=∀g,g∈L->∃s,w.cell? ⟨g,0,none⟩=some (.string s)
theorem StrL.out {w:World} {L:List Nat} (h:StrL w L) {b:Nat} {k:IntKind} {z:Int} (hc:w.cell? ⟨b,0,none⟩=some (.int k z)):b∉L:=fun hm=>str_ne (h b hm) hc rfl
theorem Al.rexS {L:List Nat} {w w':World} {p:Option Addr} {l:List Ah} (h:Al w p l) (h0:S0 p) (hz:StrL w L) (hr:Rex L w w'):Al w' p l:=⟨fun i r hi=>by
 obtain⟨b,o,e,q0,q1,q2⟩:=h.at' i r hi
 have ho:o=0:=h0 _ e
 subst ho
 obtain⟨r0,hr0⟩:∃r0,l[0]? =some r0:=⟨_,List.getElem?_eq_getElem (by have:=(List.getElem?_eq_some_iff.1 hi).1;omega)⟩
 obtain⟨b',o',e',z0,_⟩:=h.at' 0 r0 hr0
 rw[e] at e'
 injection e' with e';injection e' with eb eo _
 subst eb;subst eo
 have hn:=hz.out (b:=b) (by simpa using z0)
 exact⟨b,0,e,Gp hr q0 hn,Gp hr q1 hn,Gp hr q2 hn⟩⟩
theorem A3.rexS {L:List Nat} {w w':World} {p:Option Addr} {l:List Int} (h:A3 w p l) (h0:S0 p) (hz:StrL w L) (hr:Rex L w w'):A3 w' p l:=⟨fun i r hi=>by
 obtain⟨b,o,e,q0⟩:=h.at' i r hi
 have ho:o=0:=h0 _ e
 subst ho
 obtain⟨r0,hr0⟩:∃r0,l[0]? =some r0:=⟨_,List.getElem?_eq_getElem (by have:=(List.getElem?_eq_some_iff.1 hi).1;omega)⟩
 obtain⟨b',o',e',z0⟩:=h.at' 0 r0 hr0
 rw[e] at e'
 injection e' with e';injection e' with eb eo _
 subst eb;subst eo
 have hn:=hz.out (b:=b) (by simpa using z0)
 exact⟨b,0,e,Gp hr q0 hn⟩⟩
theorem Ar.rexS {L:List Nat} {w w':World} {p:Option Addr} {l:List (Int×Int)} (h:Ar w p l) (h0:S0 p) (hz:StrL w L) (hr:Rex L w w'):Ar w' p l:=⟨fun i r hi=>by
 obtain⟨b,o,e,q0,q1⟩:=h.at' i r hi
 have ho:o=0:=h0 _ e
 subst ho
 obtain⟨r0,hr0⟩:∃r0,l[0]? =some r0:=⟨_,List.getElem?_eq_getElem (by have:=(List.getElem?_eq_some_iff.1 hi).1;omega)⟩
 obtain⟨b',o',e',z0,_⟩:=h.at' 0 r0 hr0
 rw[e] at e'
 injection e' with e';injection e' with eb eo _
 subst eb;subst eo
 have hn:=hz.out (b:=b) (by simpa using z0)
 exact⟨b,0,e,Gp hr q0 hn,Gp hr q1 hn⟩⟩
theorem F9.rexS {L:List Nat} {w w':World} {g:Nat} {l:List Aw} (h:F9 w g l) (hz:StrL w L) (hr:Rex L w w'):F9 w' g l:=⟨fun i s hs=>by
 obtain⟨p',q',cap,vc,h1,h2,h3,h4,h5⟩:=h.at' i s hs
 obtain⟨s0,hs0⟩:∃s0,l[0]? =some s0:=⟨_,List.getElem?_eq_getElem (by have:=(List.getElem?_eq_some_iff.1 hs).1;omega)⟩
 obtain⟨p0,q0,c0,v0,k1,_⟩:=h.at' 0 s0 hs0
 have hn:=hz.out (b:=g) (show w.cell? ⟨g,0,none⟩=some (s0.K) from k1 0 _ rfl)
 exact⟨p',q',cap,vc,fun j v hv=>Gp hr (h1 j v hv) hn,⟨h2.runs.rexS h4 hz hr,h2.raw.rexS h5 hz hr,h2.fewR,h2.fewV⟩,h3,h4,h5⟩⟩
theorem Kz.rexS {L:List Nat} {w w':World} {s:A8} {pS pP:Option Addr} (h:Kz w s pS pP) (hz:StrL w L) (hr:Rex L w w'):Kz w' s pS pP:=by
 obtain⟨⟨h1,h2,h3,h4⟩,hs,ho⟩:=h
 rcases hs with⟨rfl,e⟩|⟨g,rfl,hg⟩
 ·exact⟨⟨⟨fun i x hx=>by rw[e] at hx;simp at hx⟩,h2.rexS ho hz hr,h3,h4⟩,.inl ⟨rfl,e⟩,ho⟩
 ·exact⟨⟨(hg.rexS hz hr).segs,h2.rexS ho hz hr,h3,h4⟩,.inr ⟨g,rfl,hg.rexS hz hr⟩,ho⟩
theorem Kz.rex {L:List Nat} {w w':World} {s:A8} {pS pP:Option Addr} (h:Kz w s pS pP) (hr:Rex L w w') (hL:L= []):Kz w' s pS pP:=by
 subst hL
 exact h.rexS (L:= []) (fun g hg=>by cases hg) hr
theorem Kz.drew {w:World} {s:A8} {pS pP:Option Addr} (h:Kz w s pS pP):Kz w.drew s pS pP:=h.rex (L:= []) (Rex.refl _ _).drew rfl
theorem Kz.below {w w':World} {s:A8} {pS pP:Option Addr} (h:Kz w s pS pP) (hb:Below w.heap.size w w'):Kz w' s pS pP:=h.rex (L:= []) (Rex.of_below hb) rfl
attribute [local simp] Oper.looksAt Op.operands Call.operands Af Det Am
theorem Z5 {P:Program} {W:World} {g:Nat} {p:Option Addr} {m c:Nat} {news:List Value} (t ty e:TypeId) (i:TypeInfo) (z:Value) (size bytes:Nat) (ht:P.underlying t=some (.slice e)) (hi:P.info? e=some i) (hz:i.zero=some z)
  (hsize:i.size=size) (hby:i.bytes=bytes) (hzs:z.cells.size=size) (hsz:0<size) (hg:Blk W g #[] e)
  (hnil:p=none->m=0/\c=0) (hl:news.length=m*size) (hnews:∀a,p=some a->∀j u,news[j]? =some u->W.cell? (a.add j)=some u) (h1:∀u∈news,u.oneCell'=true) (hm:m<=9223372036854775807) (hbm:m*bytes<=140737488355328):
  ∃v' w',(Builtin.append_ #[t,t] ty #[.slice (some ⟨g,0,none⟩) 0 0,.slice p m c]).run P W= .ok v' w'/\Below W.heap.size W w'/\∃g' cap' cur,v'= .slice (some ⟨g',0,none⟩) m cap'/\g<=g'/\Blk w' g' cur e/\m<=cap'/\m*size<=cur.size/\cur.toList.take (m*size)=news:=by
 have hglt:=hg.lt
 have hown:W.ownsRow g e size (.slice (some ⟨g,0,none⟩) 0 0) 0 []:=⟨by simp,.inr ⟨g,0,#[],rfl,Nat.le_refl _,hg,Nat.le_refl _,Nat.zero_le _,by simp,by simp⟩⟩
 cases p with
 |none=>
  obtain⟨rfl,rfl⟩:=hnil rfl
  obtain rfl:news= []:=List.eq_nil_of_length_eq_zero (by simpa using hl)
  exact⟨_,_,run_append_owned_none (P:=P) (w:=W) g t ty e i size ht hi _ 0 [] hown,Below.refl _ _,g,0,#[],rfl,Nat.le_refl _,hg,Nat.le_refl _,by simp,by simp⟩
 |some a=>
  obtain⟨v',w',hr,ho,hgr,hn⟩:=run_append_own (P:=P) W g t ty e i z size bytes ht hi hz hsize hby hzs hsz _ 0 [] hown a m c news hl (hnews a rfl) h1 (by simp only[maxLen];omega) (by rw[Nat.zero_add];omega) (by omega)
  have hBel:Below W.heap.size W w':=by
   refine⟨hgr.os,hgr.tape,hgr.output,hgr.size,fun k hk=> ?_⟩
   by_cases hkg:k=g
   ·subst hkg
    by_cases hm0:m=0
    ·subst hm0
     obtain rfl:news= []:=List.eq_nil_of_length_eq_zero (by simpa using hl)
     have hr2:=run_append_room (P:=P) W t ty e i ht hi k 0 0 #[] hg a 0 c [] (by simp) (fun j u h=>by simp at h) (fun u h=>by simp at h) (by omega) (by simp)
     rw[hr2] at hr
     injection hr with _ hr
     subst hr
     rw[setRow_heap W k #[] _ e _ hg]
     have hg2:=hg
     unfold Blk at hg2
     simpa using hg2.symm
    ·have hr2:=run_append_grow (P:=P) W t ty e i z ht hi hz ⟨k,0,none⟩ 0 0 [] (by simp) (fun j u h=>by simp at h) a m c news (by rw[hl,hsize]) (hnews a rfl) (by omega) (by omega) (by rw[hby];exact growslice_fits (by omega) (by rw[Nat.zero_add];omega))
     rw[hr2] at hr
     injection hr with _ hr
     subst hr
     exact Below.heap_alloc W.drew _ k hk
   ·exact hgr.block k hk (by simp[Value.ownBlock];omega)
  rw[Nat.zero_add,List.nil_append] at ho
  obtain⟨hlen,h2|⟨g',cap',cur,rfl,hgg,hb',hnc,hcm,hcs,htk⟩⟩:=ho
  ·exact absurd (hn.1 h2.1).1 (by simp)
  ·refine⟨_,_,hr,hBel,g',cap',cur,rfl,hgg,hb',hnc,?_,?_⟩
   ·rw[hcs];exact Nat.mul_le_mul_right _ hnc
   ·exact htk
theorem c_copy24 (nm:ByteArray) (ep fl la sc:Int) (ps po:Option Addr) (cs co:Nat) (rows:List Cn) (pts:List (Int×Int)) (w:World)
  (hsegs:D5 w ps rows) (hpts:Ar w po pts) (hnilS:ps=none->rows.length=0/\cs=0) (hnilP:po=none->pts.length=0/\co=0) (hmS:rows.length*96<=140737488355328) (hmP:pts.length*16<=140737488355328):
  Calls Tryz.prog 81 #[.agg #[.string nm,ep,fl,la,sc,.slice ps rows.length cs,.slice po pts.length co]] w fun e w'=>∃v,e= .returned v/\Below w.heap.size w w'/\∃gS capS curS gP capP curP,v= .agg #[.string nm,ep,fl,la,sc,.slice (some ⟨gS,0,none⟩) rows.length capS,.slice (some ⟨gP,0,none⟩) pts.length capP]/\w.heap.size<=gS/\w.heap.size<=gP/\Blk w' gS curS 135/\curS.toList.take (rows.length*8)=Ca rows/\rows.length<=capS/\Blk w' gP curP 58/\curP.toList.take (pts.length*2)=Ax pts/\pts.length<=capP:=by
 go_enter Tryz.func81,Tryz.ntmps81
 go_upto_region 1 with(fail)
 refine Ab w (Bc w.heap.size #[.string nm,ep,fl,la,sc,.slice ps rows.length cs,.slice po pts.length co] 79<|Bc (w.heap.size+1) #[.string .empty,.int .i64 0,.int .i64 0,.int .i64 0,.int .i64 0,.slice none 0 0,.slice none 0 0] 79<|Bz) ?_
 rintro W1 hW z2 hL
 obtain⟨⟨b1,yb1,k1,f1⟩,⟨b2,yb2,k2,f2⟩,-⟩:=id hL
 clear k1 f1 k2 f2
 refine Bw 9 14 hW hL ?_
 apply Rs (S3 W1.heap.size 135) (hg:=rfl) (hal:=rfl)
 ·exact S3.closed _ _
 ·intro a' W' hC hE
  exact⟨.slice (some ⟨W'.heap.size,0,none⟩) 0 0,W'.alloc (.cells #[] 135),by kernel_rfl,(Below.refl _ _).alloc (Nat.le_refl _) _,W'.heap.size,rfl,hC.1.size,Blk.new' rfl⟩
 iterate 2 refine dA ?_
 apply Rs (AppV W1.heap.size 135 rows.length (rows.length*8) (Ca rows)) (hg:=rfl) (hal:=rfl)
 ·exact AppV.closed _ _ _ _ _
 ·intro a' W' hC hE
  simp at hE
  obtain⟨⟨g9,hv9,hgB9,hgb9⟩,hx9⟩:=hE
  obtain⟨i9,hi9,hz0,hz1,hz2⟩:=info_parts Tryz.infoSeg
  obtain⟨v9,w9,hr9,hB9,g8,c8,cur8,e8,h81,h82,h83,h84,h85⟩:=Z5 (P:=Tryz.prog) (m:=rows.length) (p:=ps) (c:=cs) (news:=(Ca rows)) 77 77 135 i9 _ 8 96 (by kernel_rfl) hi9 hz0 hz1 hz2 rfl (by omega) hgb9 hnilS (Ws rows) (fun a ha j u hu=>(hsegs.below (hW.trans (hC.1.of_priv hW.size))).flat a ha j u hu) (fun u hu=>Wr u hu) (by omega) (by omega)
  refine⟨v9,w9,?_,hB9,g8,c8,cur8,e8,by omega,h82,h83,h84,h85⟩
  simp[execOp,resolve,invoke,builtin,Act.eval,hx9,hv9,hr9,Result.andThen]
 apply Rs (S3 W1.heap.size 58) (hg:=rfl) (hal:=rfl)
 ·exact S3.closed _ _
 ·intro a' W' hC hE
  exact⟨.slice (some ⟨W'.heap.size,0,none⟩) 0 0,W'.alloc (.cells #[] 58),by kernel_rfl,(Below.refl _ _).alloc (Nat.le_refl _) _,W'.heap.size,rfl,hC.1.size,Blk.new' rfl⟩
 iterate 2 refine dA ?_
 apply Rs (AppV W1.heap.size 58 pts.length (pts.length*2) (Ax pts)) (hg:=rfl) (hal:=rfl)
 ·exact AppV.closed _ _ _ _ _
 ·intro a' W' hC hE
  simp at hE
  obtain⟨⟨g9,hv9,hgB9,hgb9⟩,hx9⟩:=hE
  obtain⟨i9,hi9,hz0,hz1,hz2⟩:=info_parts Tryz.infoPt
  obtain⟨v9,w9,hr9,hB9,g8,c8,cur8,e8,h81,h82,h83,h84,h85⟩:=Z5 (P:=Tryz.prog) (m:=pts.length) (p:=po) (c:=co) (news:=(Ax pts)) 33 33 58 i9 _ 2 16 (by kernel_rfl) hi9 hz0 hz1 hz2 rfl (by omega) hgb9 hnilP (Hg pts) (fun a ha j u hu=>Ul (ha▸hpts.below (hW.trans (hC.1.of_priv hW.size))) j u hu) (fun u hu=>Kf _ u hu) (by omega) (by omega)
  refine⟨v9,w9,?_,hB9,g8,c8,cur8,e8,by omega,h82,h83,h84,h85⟩
  simp[execOp,resolve,invoke,builtin,Act.eval,hx9,hv9,hr9,Result.andThen]
 refine dA ?_
 clear hW hL b1 b2
 rintro W3 hW z4 hL
 simp only[ndR]
 intros
 repeat (rename Am _ _ _ _=>hgd;clear hgd)
 simp only[ndS]
 obtain⟨⟨b1,yb1,k1,f1⟩,⟨b2,yb2,k2,f2⟩,-⟩:=hL
 rename AppV _ 135 _ _ _ _ _=>hs
 obtain⟨gS,capS,curS,rfl,hgS0,b3,hcS,hsS,htS⟩:=hs
 rename AppV _ _ _ _ _ _ _=>hp
 obtain⟨gP,capP,curP,rfl,hgP0,b4,hcP,hsP,htP⟩:=hp
 repeat (rename S3 _ _ _ _=>hm;clear hm)
 have hgS:w.heap.size+1<gS:=by omega
 have hgP:w.heap.size+1<gP:=by omega
 have y3:=b3.lt
 have y4:=b4.lt
 replace htS:=Hd htS
 replace htP:=Hd htP
 replace hsS:=Hd hsS
 replace hsP:=Hd hsP
 have k3:=b3.cell
 have f3:=b3.frozen
 have k4:=b4.cell
 have f4:=b4.frozen
 go_upto_region 2 with(fail)
 clear k1 f1 k2 f2 k3 f3 k4 f4
 refine Ab w (Bc w.heap.size #[.string nm,ep,fl,la,sc,.slice (some ⟨gS,0,none⟩) rows.length capS,.slice (some ⟨gP,0,none⟩) pts.length capP] 79<|Bc (w.heap.size+1) #[.string .empty,.int .i64 0,.int .i64 0,.int .i64 0,.int .i64 0,.slice none 0 0,.slice none 0 0] 79<|Bc gS curS 135<|Bc gP curP 58<|Bz) ?_
 clear b1 b2 b3 b4 hW
 rintro W5 hW z6 ⟨⟨b1,yb1,k1,f1⟩,⟨b2,yb2,k2,f2⟩,⟨b3,yb3,k3,f3⟩,⟨b4,yb4,k4,f4⟩,-⟩
 go_wp2
 have d2:Blk (((((((W5.setCell ⟨w.heap.size+1,0,none⟩ (.string nm)).setCell ⟨w.heap.size+1,1,none⟩ (ep)).setCell ⟨w.heap.size+1,2,none⟩ (fl)).setCell ⟨w.heap.size+1,3,none⟩ (la)).setCell ⟨w.heap.size+1,4,none⟩ (sc)).setCell ⟨w.heap.size+1,5,none⟩ (.slice (some ⟨gS,0,none⟩) rows.length capS)).setCell ⟨w.heap.size+1,6,none⟩ (.slice (some ⟨gP,0,none⟩) pts.length capP)) (w.heap.size+1) #[.string nm,ep,fl,la,sc,.slice (some ⟨gS,0,none⟩) rows.length capS,.slice (some ⟨gP,0,none⟩) pts.length capP] 79:=Ad
 have d3:Blk (((((((W5.setCell ⟨w.heap.size+1,0,none⟩ (.string nm)).setCell ⟨w.heap.size+1,1,none⟩ (ep)).setCell ⟨w.heap.size+1,2,none⟩ (fl)).setCell ⟨w.heap.size+1,3,none⟩ (la)).setCell ⟨w.heap.size+1,4,none⟩ (sc)).setCell ⟨w.heap.size+1,5,none⟩ (.slice (some ⟨gS,0,none⟩) rows.length capS)).setCell ⟨w.heap.size+1,6,none⟩ (.slice (some ⟨gP,0,none⟩) pts.length capP)) gS curS 135:=Ad
 have d4:Blk (((((((W5.setCell ⟨w.heap.size+1,0,none⟩ (.string nm)).setCell ⟨w.heap.size+1,1,none⟩ (ep)).setCell ⟨w.heap.size+1,2,none⟩ (fl)).setCell ⟨w.heap.size+1,3,none⟩ (la)).setCell ⟨w.heap.size+1,4,none⟩ (sc)).setCell ⟨w.heap.size+1,5,none⟩ (.slice (some ⟨gS,0,none⟩) rows.length capS)).setCell ⟨w.heap.size+1,6,none⟩ (.slice (some ⟨gP,0,none⟩) pts.length capP)) gP curP 58:=Ad
 have hB9:Below w.heap.size w (((((((W5.setCell ⟨w.heap.size+1,0,none⟩ (.string nm)).setCell ⟨w.heap.size+1,1,none⟩ (ep)).setCell ⟨w.heap.size+1,2,none⟩ (fl)).setCell ⟨w.heap.size+1,3,none⟩ (la)).setCell ⟨w.heap.size+1,4,none⟩ (sc)).setCell ⟨w.heap.size+1,5,none⟩ (.slice (some ⟨gS,0,none⟩) rows.length capS)).setCell ⟨w.heap.size+1,6,none⟩ (.slice (some ⟨gP,0,none⟩) pts.length capP)):=Aa
 obtain⟨W9,hW9⟩:∃W9,W9=(((((((W5.setCell ⟨w.heap.size+1,0,none⟩ (.string nm)).setCell ⟨w.heap.size+1,1,none⟩ (ep)).setCell ⟨w.heap.size+1,2,none⟩ (fl)).setCell ⟨w.heap.size+1,3,none⟩ (la)).setCell ⟨w.heap.size+1,4,none⟩ (sc)).setCell ⟨w.heap.size+1,5,none⟩ (.slice (some ⟨gS,0,none⟩) rows.length capS)).setCell ⟨w.heap.size+1,6,none⟩ (.slice (some ⟨gP,0,none⟩) pts.length capP)):=⟨_,rfl⟩
 rw[<-hW9] at d2 d3 d4 hB9⊢
 clear hW9 b1 b2 b3 b4 hW k1 f1 k2 f2 k3 f3 k4 f4
 have k2:=d2.cell
 have f2:=d2.frozen
 have y_2:=d2.lt
 refine bodyPost_ret (v:= .agg #[.string nm,ep,fl,la,sc,.slice (some ⟨gS,0,none⟩) rows.length capS,.slice (some ⟨gP,0,none⟩) pts.length capP]) (by simp[results,Tryz.results81,go_sem,k2,f2,y_2]) rfl ⟨_,rfl,hB9,gS,capS,curS,gP,capP,curP,rfl,by omega,by omega,d3,htS.out,hcS,d4,htP.out,hcP⟩
def Hk (w w':World):Prop:=∀b,(∃k z,w.cell? ⟨b,0,none⟩=some (.int k z))->∀z v,w.cell? ⟨b,z,none⟩=some v->w'.cell? ⟨b,z,none⟩=some v
theorem Hk.refl (w:World):Hk w w:=fun _ _ _ _ h=>h
theorem Hk.trans {w w1 w2:World} (h1:Hk w w1) (h2:Hk w1 w2):Hk w w2:=fun b hb z v hv=>h2 b (by obtain⟨k,y,h⟩:=hb;exact⟨k,y,h1 b ⟨k,y,h⟩ 0 _ h⟩) z v (h1 b hb z v hv)
theorem Hk.of_below {w w':World} (h:Below w.heap.size w w'):Hk w w':=fun b _ z v hv=>((Dc h).1 b z (Ap hv)).trans hv
theorem Al.keepI {w w':World} {p:Option Addr} {l:List Ah} (h:Al w p l) (h0:S0 p) (hk:Hk w w'):Al w' p l:=⟨fun i r hi=>by
 obtain⟨b,o,e,q0,q1,q2⟩:=h.at' i r hi
 have ho:o=0:=h0 _ e
 subst ho
 obtain⟨r0,hr0⟩:∃r0,l[0]? =some r0:=⟨_,List.getElem?_eq_getElem (by have:=(List.getElem?_eq_some_iff.1 hi).1;omega)⟩
 obtain⟨b',o',e',z0,_⟩:=h.at' 0 r0 hr0
 rw[e] at e'
 injection e' with e';injection e' with eb eo _
 subst eb;subst eo
 have hn:=hk b ⟨_,_,by simpa using z0⟩
 exact⟨b,0,e,hn _ _ q0,hn _ _ q1,hn _ _ q2⟩⟩
theorem A3.keepI {w w':World} {p:Option Addr} {l:List Int} (h:A3 w p l) (h0:S0 p) (hk:Hk w w'):A3 w' p l:=⟨fun i r hi=>by
 obtain⟨b,o,e,q0⟩:=h.at' i r hi
 have ho:o=0:=h0 _ e
 subst ho
 obtain⟨r0,hr0⟩:∃r0,l[0]? =some r0:=⟨_,List.getElem?_eq_getElem (by have:=(List.getElem?_eq_some_iff.1 hi).1;omega)⟩
 obtain⟨b',o',e',z0⟩:=h.at' 0 r0 hr0
 rw[e] at e'
 injection e' with e';injection e' with eb eo _
 subst eb;subst eo
 exact⟨b,0,e,hk b ⟨_,_,by simpa using z0⟩ _ _ q0⟩⟩
theorem Ar.keepI {w w':World} {p:Option Addr} {l:List (Int×Int)} (h:Ar w p l) (h0:S0 p) (hk:Hk w w'):Ar w' p l:=⟨fun i r hi=>by
 obtain⟨b,o,e,q0,q1⟩:=h.at' i r hi
 have ho:o=0:=h0 _ e
 subst ho
 obtain⟨r0,hr0⟩:∃r0,l[0]? =some r0:=⟨_,List.getElem?_eq_getElem (by have:=(List.getElem?_eq_some_iff.1 hi).1;omega)⟩
 obtain⟨b',o',e',z0,_⟩:=h.at' 0 r0 hr0
 rw[e] at e'
 injection e' with e';injection e' with eb eo _
 subst eb;subst eo
 have hn:=hk b ⟨_,_,by simpa using z0⟩
 exact⟨b,0,e,hn _ _ q0,hn _ _ q1⟩⟩
theorem F9.keepI {w w':World} {g:Nat} {l:List Aw} (h:F9 w g l) (hk:Hk w w'):F9 w' g l:=⟨fun i s hs=>by
 obtain⟨p',q',cap,vc,h1,h2,h3,h4,h5⟩:=h.at' i s hs
 obtain⟨s0,hs0⟩:∃s0,l[0]? =some s0:=⟨_,List.getElem?_eq_getElem (by have:=(List.getElem?_eq_some_iff.1 hs).1;omega)⟩
 obtain⟨p0,q0,c0,v0,k1,_⟩:=h.at' 0 s0 hs0
 have hn:=hk g ⟨_,_,show w.cell? ⟨g,0,none⟩=some (s0.K) from k1 0 _ rfl⟩
 exact⟨p',q',cap,vc,fun j v hv=>hn _ _ (h1 j v hv),⟨h2.runs.keepI h4 hk,h2.raw.keepI h5 hk,h2.fewR,h2.fewV⟩,h3,h4,h5⟩⟩
theorem Kz.keepI {w w':World} {s:A8} {pS pP:Option Addr} (h:Kz w s pS pP) (hk:Hk w w'):Kz w' s pS pP:=by
 obtain⟨⟨h1,h2,h3,h4⟩,hs,ho⟩:=h
 rcases hs with⟨rfl,e⟩|⟨g,rfl,hg⟩
 ·exact⟨⟨⟨fun i x hx=>by rw[e] at hx;simp at hx⟩,h2.keepI ho hk,h3,h4⟩,.inl ⟨rfl,e⟩,ho⟩
 ·exact⟨⟨(hg.keepI hk).segs,h2.keepI ho hk,h3,h4⟩,.inr ⟨g,rfl,hg.keepI hk⟩,ho⟩
theorem Mq :∀(l:List Cn) (M:Nat),(Ca l).take (M*8)=Ca (l.take M)
 | [],M=>by simp[Ca]
 |x::l,0=>by simp[Ca]
 |x::l,M+1=>by
  have h:Ca (x::l)=(Fm x).toList++Ca l:=by unfold Ca;rw[List.flatMap_cons]
  have h2:Ca (x::l.take M)=(Fm x).toList++Ca (l.take M):=by unfold Ca;rw[List.flatMap_cons]
  rw[h,List.take_succ_cons,h2,show (M+1)*8=(Fm x).toList.length+M*8 by rw[Lz];omega,List.take_length_add_append,Mq l M]
theorem Ms :∀(l:List (Int×Int)) (M:Nat),(Ax l).take (M*2)=Ax (l.take M)
 | [],M=>by simp[Ax]
 |x::l,0=>by simp[Ax]
 |x::l,M+1=>by
  have h:Ax (x::l)= [.int .i64 x.1,.int .i64 x.2]++Ax l:=rfl
  have h2:Ax (x::l.take M)= [.int .i64 x.1,.int .i64 x.2]++Ax (l.take M):=rfl
  rw[h,List.take_succ_cons,h2,show (M+1)*2= [(Value.int .i64 x.1),.int .i64 x.2].length+M*2 by simp;omega,List.take_length_add_append,Ms l M]
theorem take_segs {c:List Value} {rows:List Cn} (M:Nat) (hM:M<=rows.length) (h:c.take (rows.length*8)=Ca rows):c.take (M*8)=Ca (rows.take M):=by
 rw[<-Mq,<-h,List.take_take,Nat.min_eq_left (Nat.mul_le_mul_right 8 hM)]
theorem take_pts {c:List Value} {pts:List (Int×Int)} (N:Nat) (hN:N<=pts.length) (h:c.take (pts.length*2)=Ax pts):c.take (N*2)=Ax (pts.take N):=by
 rw[<-Ms,<-h,List.take_take,Nat.min_eq_left (Nat.mul_le_mul_right 2 hN)]
def own28sRel (w:World) (nm9:ByteArray) (ep fl la sc:Int) (pP:Option Addr) (capP N:Nat) (rows:List Cn) (pts:List (Int×Int)) (M gS capS:Nat) (a':Act) (W:World):Prop:=
 Below w.heap.size w W/\Blk W w.heap.size #[.string nm9,.int .i64 ep,.int .i64 fl,.int .i64 la,.int .i64 sc,.slice (some ⟨gS,0,none⟩) M capS,.slice pP N capP] 79/\Blk W (w.heap.size+1) #[.string .empty,.int .i64 0,.int .i64 0,.int .i64 0,.int .i64 0,.slice none 0 0,.slice none 0 0] 79/\Cc W (w.heap.size+1+1) pP pts/\∃(i:Nat) (cur:Array Value) (R:List Cn),Blk W gS cur 135/\Ga cur R/\G9 W gS rows R i/\(∃u:Nat->Value,a'= {tmps:= #[u 0,.pointer (some ⟨w.heap.size,0,none⟩),.pointer (some ⟨w.heap.size+1,0,none⟩),u 3,u 4,u 5,u 6,u 7,u 8,u 9,u 10,u 11,u 12,u 13,u 14,u 15,u 16,u 17,u 18,u 19,u 20,u 21,u 22,u 23,u 24,u 25,u 26,u 27,u 28,u 29,u 30,u 31,.slice (some ⟨gS,0,none⟩) M capS,.int .i64 (M:Int),.int .i64 (i:Int),u 35,u 36,u 37,u 38,u 39,u 40,u 41,u 42,u 43,u 44,u 45,u 46,u 47,u 48,u 49,u 50,u 51,u 52,u 53,u 54,u 55,u 56,u 57,u 58,u 59,u 60,u 61,u 62,u 63,u 64,u 65,u 66],defers:= []})/\i<=M
theorem series28_w (nm:ByteArray) (ep fl la sc:Int) (ps po:Option Addr) (cs co:Nat) (rows:List Cn) (pts:List (Int×Int)) (w:World) (M N:Nat)
  (hsegs:D5 w ps rows) (hpts:Ar w po pts) (hnilS:ps=none->rows.length=0/\cs=0) (hnilP:po=none->pts.length=0/\co=0) (hmS:rows.length*96<=140737488355328) (hmP:pts.length*16<=140737488355328)
  (hM:M<=12) (hMr:M<=rows.length) (EM:Hid ((if (12:Int)<(rows.length:Int) then (12:Int) else rows.length)=(M:Int))) (hM0:0<=(M:Int))
  (hN:N<=40) (hNr:N<=pts.length) (EN:Hid ((if (40:Int)<(pts.length:Int) then (40:Int) else pts.length)=(N:Int))) (hN0:0<=(N:Int)) (nm9:ByteArray) (hnm:Hid ((nm.extract 0 (mn (nm.size:Int) 20).toNat)=nm9)):
  Calls Tryz.prog 38 #[.agg #[.string nm,.int .i64 ep,.int .i64 fl,.int .i64 la,.int .i64 sc,.slice ps rows.length cs,.slice po pts.length co]] w fun e w'=>∃gS capS pP capP,e= .returned (.agg #[.string nm9,.int .i64 ep,.int .i64 fl,.int .i64 la,.int .i64 sc,.slice (some ⟨gS,0,none⟩) M capS,.slice pP N capP])/\Below w.heap.size w w'/\Lasts w.heap.size w' fun W=>F9 W gS ((rows.take M).map fun r=>Yn r.s)/\Ar W pP (pts.take N)/\S0 pP:=by
 have c1:=Hd (fun W (hW:Below w.heap.size w W)=>c_copy24 nm ep fl la sc ps po cs co rows pts W (hsegs.below hW) (hpts.below hW) hnilS hnilP hmS hmP)
 go_enter Tryz.func38,Tryz.ntmps38
 have hmin:∀ts t x y w,(Builtin.min_ ts t #[.int .i64 x,.int .i64 y]).run Tryz.prog w= .ok (.int .i64 (mn x y)) w:=fun ts t x y w=>by simp[Builtin.min_,Builtin.min2,mn]
 have hm0:=Qo (nm.size:Int) 20
 have hm1:0<=mn (nm.size:Int) 20:=by omega
 have hm2:mn (nm.size:Int) 20<=(nm.size:Int):=hm0.1
 clear hm0
 go_upto_region 1 with(fail)
 refine Ab w (Bc w.heap.size #[.string nm,.int .i64 ep,.int .i64 fl,.int .i64 la,.int .i64 sc,.slice ps rows.length cs,.slice po pts.length co] 79<|Bc (w.heap.size+1) #[.string .empty,.int .i64 0,.int .i64 0,.int .i64 0,.int .i64 0,.slice none 0 0,.slice none 0 0] 79<|Bz) ?_
 rintro W1 hW z2 ⟨⟨b1,yb1,k1,f1⟩,⟨b2,yb2,k2,f2⟩,-⟩
 go_wp2_with fail
 refine(c1.out _ hW).mono ?_
 rintro e w3 ⟨v,rfl,hb3,gS,capS,curS,gP,capP,curP,rfl,hgS0,hgP0,hbS,htS,hcS,hbP,htP,hcP⟩
 have z4:=hb3.size
 try simp at z4
 clear k1 f1 k2 f2
 refine Aj w w3 (Bc w.heap.size #[.string nm,.int .i64 ep,.int .i64 fl,.int .i64 la,.int .i64 sc,.slice ps rows.length cs,.slice po pts.length co] 79<|Bc (w.heap.size+1) #[.string .empty,.int .i64 0,.int .i64 0,.int .i64 0,.int .i64 0,.slice none 0 0,.slice none 0 0] 79<|Bz) ?_
 clear b1 b2 hW
 rintro hW z5 ⟨⟨b1,yb1,k1,f1⟩,⟨b2,yb2,k2,f2⟩,-⟩
 have hgS:w.heap.size+1<gS:=by omega
 have hgP:w.heap.size+1<gP:=by omega
 have b3:=hbS
 have b4:=hbP
 have y3:=b3.lt
 have y4:=b4.lt
 replace htS:=Hd (take_segs M hMr htS)
 replace htP:=Hd (take_pts N hNr htP)
 have hMc:(M:Int)<=capS:=by omega
 have hNc:(N:Int)<=capP:=by omega
 clear hbS hbP hgS0 hgP0 c1
 have k3:=b3.cell
 have f3:=b3.frozen
 have k4:=b4.cell
 have f4:=b4.frozen
 go_upto_region 2 with(fail)
 clear k1 f1 k2 f2 k3 f3 k4 f4
 refine Ab w (Bc w.heap.size #[.string nm,.int .i64 ep,.int .i64 fl,.int .i64 la,.int .i64 sc,.slice (some ⟨gS,0,none⟩) rows.length capS,.slice (some ⟨gP,0,none⟩) pts.length capP] 79<|Bc (w.heap.size+1) #[.string .empty,.int .i64 0,.int .i64 0,.int .i64 0,.int .i64 0,.slice none 0 0,.slice none 0 0] 79<|Bc gS curS 135<|Bc gP curP 58<|Bz) ?_
 clear b1 b2 b3 b4 hW
 rintro W6 hW z7 ⟨⟨b1,yb1,k1,f1⟩,⟨b2,yb2,k2,f2⟩,⟨b3,yb3,k3,f3⟩,⟨b4,yb4,k4,f4⟩,-⟩
 go_upto_region 3 with(fail)
 clear k1 f1 k2 f2 k3 f3 k4 f4
 refine Ab w (Bc w.heap.size #[.string (nm.extract 0 (mn (nm.size:Int) 20).toNat),.int .i64 ep,.int .i64 fl,.int .i64 la,.int .i64 sc,.slice (some ⟨gS,0,none⟩) rows.length capS,.slice (some ⟨gP,0,none⟩) pts.length capP] 79<|Bc (w.heap.size+1) #[.string .empty,.int .i64 0,.int .i64 0,.int .i64 0,.int .i64 0,.slice none 0 0,.slice none 0 0] 79<|Bc gS curS 135<|Bc gP curP 58<|Bz) ?_
 clear b1 b2 b3 b4 hW
 rintro W8 hW z9 ⟨⟨b1,yb1,k1,f1⟩,⟨b2,yb2,k2,f2⟩,⟨b3,yb3,k3,f3⟩,⟨b4,yb4,k4,f4⟩,-⟩
 clear hmin hm1 hm2
 rw[hnm.out] at b1
 clear k1 f1 k2 f2 k3 f3 k4 f4
 have k1:=b1.cell
 have f1:=b1.frozen
 have k2:=b2.cell
 have f2:=b2.frozen
 have k3:=b3.cell
 have f3:=b3.frozen
 have k4:=b4.cell
 have f4:=b4.frozen
 have hmM:∀ts t W,(Builtin.min_ ts t #[.int .i64 (rows.length:Int),.int .i64 12]).run Tryz.prog W= .ok (.int .i64 (M:Int)) W:=fun ts t W=>by simp[Builtin.min_,Builtin.min2,EM.out]
 have hmN:∀ts t W,(Builtin.min_ ts t #[.int .i64 (pts.length:Int),.int .i64 40]).run Tryz.prog W= .ok (.int .i64 (N:Int)) W:=fun ts t W=>by simp[Builtin.min_,Builtin.min2,EN.out]
 go_region
 try simp only[Exit.then]
 clear hmM hmN
 go_upto_region 4 with(fail)
 clear k1 f1 k2 f2 k3 f3 k4 f4
 refine Ab w (Bc w.heap.size #[.string nm9,.int .i64 ep,.int .i64 fl,.int .i64 la,.int .i64 sc,.slice (some ⟨gS,0,none⟩) M capS,.slice (some ⟨gP,0,none⟩) N capP] 79<|Bc (w.heap.size+1) #[.string .empty,.int .i64 0,.int .i64 0,.int .i64 0,.int .i64 0,.slice none 0 0,.slice none 0 0] 79<|Bc gS curS 135<|Bc gP curP 58<|Bz) ?_ (hI:=by exact Below.drew Aa) (hR:=(Bc.mk (by exact Blk.drew Ad)<|Bc.mk (by exact Blk.drew Ad)<|Bc.mk (by exact Blk.drew Ad)<|Bc.mk (by exact Blk.drew Ad)<|trivial))
 clear b1 b2 b3 b4 hW
 rintro W10 hW z11 ⟨⟨b1,yb1,k1,f1⟩,⟨b2,yb2,k2,f2⟩,⟨b3,yb3,k3,f3⟩,⟨b4,yb4,k4,f4⟩,-⟩
 have hP:Cc W10 (w.heap.size+1+1) (some ⟨gP,0,none⟩) (pts.take N):=⟨.inr ⟨gP,curP,N*2,rfl,by omega,b4,htP.out⟩⟩
 clear b4 k4 f4 htP
 obtain⟨pP,hpP⟩:∃p,p=some (⟨gP,0,none⟩:Addr):=⟨_,rfl⟩
 rw[<-hpP] at hP b1 k1
 clear hpP
 go_wp2
 refine wp_loop (own28sRel w nm9 ep fl la sc pP capP N (rows.take M) (pts.take N) M gS capS) (fun a' _=>M-(Ag (a'.tmps.getD 34 undef)).toNat) ?_ ?_
 ·have hl9:(rows.take M).length=M:=by rw[List.length_take];omega
  exact⟨Aa,b1,b2,hP,0,curS,rows.take M,b3,Ya htS.out hl9,G9.start _ _ _,Ac rfl,Nat.zero_le _⟩
 clear hcS htS hP b1 b2 b3 hW hcP hMc hNc k1 f1 k2 f2 k3 f3
 rintro a' W ⟨hW0,b1,b2,hP,i,cur,R,b3,hSC,hOT,⟨u,rfl⟩,hi'⟩
 have hz:=hW0.size
 have zb1:=b1.lt
 have zb2:=b2.lt
 have zb3:=b3.lt
 rcases Nat.lt_or_ge i M with hiM|hiM
 ·have hlen9:(rows.take M).length=M:=by rw[List.length_take];omega
  obtain⟨r0,hr0⟩:∃r,(rows.take M)[i]? =some r:=⟨_,List.getElem?_eq_getElem (by omega)⟩
  have hR0:R[i]? =some r0:=(hOT.rest i (Nat.le_refl _)).trans hr0
  obtain⟨b,o,_,_,hcm⟩:=(hsegs.take M) i r0 hr0
  have hnR:=hcm.nilR
  have hnV:=hcm.nilV
  obtain⟨K1,hK1⟩:∃K,(r0.s.runs.take 257).length=K:=⟨_,rfl⟩
  obtain⟨K2,hK2⟩:∃K,(r0.s.raw.take 257).length=K:=⟨_,rfl⟩
  have lK1:=hK1
  have lK2:=hK2
  rw[List.length_take] at lK1 lK2
  have EK1:=Hd (show (if (257:Int)<(r0.s.runs.length:Int) then (257:Int) else r0.s.runs.length)=(K1:Int) by split<;>omega)
  have EK2:=Hd (show (if (257:Int)<(r0.s.raw.length:Int) then (257:Int) else r0.s.raw.length)=(K2:Int) by split<;>omega)
  have hcR:=hcm.capR
  have hcV:=hcm.capV
  have hK1c:(K1:Int)<=r0.cap:=by omega
  have hK10:(0:Int)<=K1:=by omega
  have hK2c:(K2:Int)<=r0.vc:=by omega
  have hK20:(0:Int)<=K2:=by omega
  have cR:=Hd (fun W' B (hW':Below w.heap.size w W') (hB:B<=W'.heap.size)=>(show Calls Tryz.prog 82 #[.slice r0.p K1 r0.cap] W' fun e w'=>∃v,e= .returned v/\Below W'.heap.size W' w'/\Qi B K1 (r0.s.runs.take 257) v w' from by
   have t:=Z0 r0.p r0.cap (r0.s.runs.take 257) W' (by omega) ((hcm.runs.below hW').take 257) (fun e=>⟨by rw[(hnR e).1];rfl,(hnR e).2⟩)
   rw[hK1] at t
   refine t.mono ?_
   rintro e w' ⟨p',c',rfl,hB',h1,h2,h3⟩
   rw[hK1] at h2⊢
   exact⟨_,rfl,hB',p',c',rfl,h1,h2,fun a e=>⟨Nat.le_trans hB (h3 a e).1,(h3 a e).2⟩⟩))
  have cI:=Hd (fun W' B (hW':Below w.heap.size w W') (hB:B<=W'.heap.size)=>(show Calls Tryz.prog 83 #[.slice r0.q K2 r0.vc] W' fun e w'=>∃v,e= .returned v/\Below W'.heap.size W' w'/\IntD B K2 (r0.s.raw.take 257) v w' from by
   have t:=Z1 r0.q r0.vc (r0.s.raw.take 257) W' (by omega) ((hcm.raw.below hW').take 257) (fun e=>⟨by rw[(hnV e).1];rfl,(hnV e).2⟩)
   rw[hK2] at t
   refine t.mono ?_
   rintro e w' ⟨p',c',rfl,hB',h1,h2,h3⟩
   rw[hK2] at h2⊢
   exact⟨_,rfl,hB',p',c',rfl,h1,h2,fun a e=>⟨Nat.le_trans hB (h3 a e).1,(h3 a e).2⟩⟩))
  replace hK1:=Hd hK1
  replace hK2:=Hd hK2
  clear hcm hlen9 EM
  have hPX:=Hd (fun Wx (hx:Rex [gS] W Wx)=>hP.rex b3 hx)
  clear hP
  have k1:=b1.cell
  have f1:=b1.frozen
  have k2:=b2.cell
  have f2:=b2.frozen
  have k3:=b3.cell
  have f3:=b3.frozen
  have q0:W.cell? ⟨gS,i*8,none⟩=some (.int .i64 r0.s.K):=(b3.cell _).trans (hSC i r0 hR0 0 _ rfl)
  have q1:W.cell? ⟨gS,i*8+1,none⟩=some (.slice r0.p r0.s.runs.length r0.cap):=(b3.cell _).trans (hSC i r0 hR0 1 _ rfl)
  have q2:W.cell? ⟨gS,i*8+2,none⟩=some (.int .i64 r0.s.A):=(b3.cell _).trans (hSC i r0 hR0 2 _ rfl)
  have q3:W.cell? ⟨gS,i*8+3,none⟩=some (.int .i64 r0.s.R):=(b3.cell _).trans (hSC i r0 hR0 3 _ rfl)
  have q4:W.cell? ⟨gS,i*8+4,none⟩=some (.int .i64 r0.s.n):=(b3.cell _).trans (hSC i r0 hR0 4 _ rfl)
  have q5:W.cell? ⟨gS,i*8+5,none⟩=some (.int .i64 r0.s.d):=(b3.cell _).trans (hSC i r0 hR0 5 _ rfl)
  have q6:W.cell? ⟨gS,i*8+6,none⟩=some (.slice r0.q r0.s.raw.length r0.vc):=(b3.cell _).trans (hSC i r0 hR0 6 _ rfl)
  have q7:W.cell? ⟨gS,i*8+7,none⟩=some (.int .i64 r0.s.E):=(b3.cell _).trans (hSC i r0 hR0 7 _ rfl)
  clear k3 f3
  go_upto_region 7 with(fail)
  clear q0 q1 q2 q3 q4 q5 q6 q7
  clear k1 f1 k2 f2
  refine wp_cutX [gS] W (Bc w.heap.size #[.string nm9,.int .i64 ep,.int .i64 fl,.int .i64 la,.int .i64 sc,.slice (some ⟨gS,0,none⟩) M capS,.slice pP N capP] 79<|Bc (w.heap.size+1) #[.string .empty,.int .i64 0,.int .i64 0,.int .i64 0,.int .i64 0,.slice none 0 0,.slice none 0 0] 79<|Bc gS cur 135<|Bc W.heap.size #[.int .i64 r0.s.K,.slice r0.p r0.s.runs.length r0.cap,.int .i64 r0.s.A,.int .i64 r0.s.R,.int .i64 r0.s.n,.int .i64 r0.s.d,.slice r0.q r0.s.raw.length r0.vc,.int .i64 r0.s.E] 135<|Bz) ?_
  clear b1 b2 b3
  rintro W21 hW z22 ⟨⟨b1,yb1,k1,f1⟩,⟨b2,yb2,k2,f2⟩,⟨b3,yb3,k3,f3⟩,⟨b4,yb4,k4,f4⟩,-⟩
  refine S6 24 67 gS (fun W'=>Rex [gS] W21 W'/\Blk W' w.heap.size #[.string nm9,.int .i64 ep,.int .i64 fl,.int .i64 la,.int .i64 sc,.slice (some ⟨gS,0,none⟩) M capS,.slice pP N capP] 79/\Blk W' W.heap.size #[.int .i64 r0.s.K,.slice r0.p r0.s.runs.length r0.cap,.int .i64 r0.s.A,.int .i64 r0.s.R,.int .i64 r0.s.n,.int .i64 r0.s.d,.slice r0.q r0.s.raw.length r0.vc,.int .i64 r0.s.E] 135/\Blk W' (w.heap.size+1) #[.string .empty,.int .i64 0,.int .i64 0,.int .i64 0,.int .i64 0,.slice none 0 0,.slice none 0 0] 79/\(Blk W' gS cur 135∨∃v,Qi W21.heap.size K1 (r0.s.runs.take 257) v W'/\Blk W' gS (cur.setIfInBounds (i*8+1) v) 135)) Cu (by kernel_rfl) rfl ⟨(Rex.refl _ _).drew,b1,b4,b2,.inl b3⟩ (fun w w' ⟨h0,h1,h2,h4,h3⟩ hr=>⟨h0.trans (hr.more (by simp)),h1.rex hr (by simp),h2.rex hr (by simp),h4.rex hr (by simp),h3.elim (fun h=> .inl (h.rex hr (by simp))) (fun⟨v,hv,h⟩=> .inr ⟨v,Qi.closed _ _ _ _ _ _ hr hv,h.rex hr (by simp)⟩)⟩) (fun c a d v w h=>by cases d<;>exact h) _ rfl ?_
  iterate 11
   apply An (hg:=rfl) (hal:=rfl)
   ·intro a W' hC hE
    obtain⟨_,k1,k2,k3,k4⟩:=hC
    have k1:=k1.cell
    have k2:=k2.cell
    first
     |(simp at hE;simp[go_sem,Act.eval,iw,hE,k1,k2,k3,k4,hiM];try rfl)
     |(clear hE;simp[go_sem,Act.eval,iw,k1,k2,k3,k4,hiM];try rfl)
  apply An (.int .i64 ((K1:Nat):Int)) (hg:=rfl) (hal:=rfl)
  ·intro a' W' hC hE
   simp at hE
   simp[go_sem,Act.eval,hE,EK1.out]
  apply An (.slice r0.p K1 r0.cap) (hg:=rfl) (hal:=rfl)
  ·intro a' W' hC hE
   simp at hE
   simp[go_sem,Act.eval,hE,hK1c,hK10,Kk]
  apply A5 (Qi W21.heap.size K1 (r0.s.runs.take 257)) (hg:=rfl) (hal:=rfl)
  ·exact Qi.closedL _ _ _ (by simp[Bn]<;>omega)
  ·intro a' W' hC hE
   simp at hE
   refine⟨_,_,?_,(cR.out W' W21.heap.size ((hW0.trans (hW.of_priv hz)).trans (hC.1.of_priv (Nat.le_trans hz hW.size) (by simp;omega))) hC.1.size).mono ?_⟩
   ·simp[go_sem,Act.eval,hE]
    try rfl
   ·rintro e w' ⟨v,rfl,hB,hv⟩
    exact⟨v,rfl,hB,hv⟩
  iterate 5
   apply An (hg:=rfl) (hal:=rfl)
   ·intro a W' hC hE
    obtain⟨_,k1,k2,k3,k4⟩:=hC
    have k1:=k1.cell
    have k2:=k2.cell
    first
     |(simp at hE;simp[go_sem,Act.eval,iw,hE,k1,k2,k3,k4,hiM];try rfl)
     |(clear hE;simp[go_sem,Act.eval,iw,k1,k2,k3,k4,hiM];try rfl)
  apply An (.int .i64 ((K2:Nat):Int)) (hg:=rfl) (hal:=rfl)
  ·intro a' W' hC hE
   simp at hE
   simp[go_sem,Act.eval,hE,EK2.out]
  apply An (.slice r0.q K2 r0.vc) (hg:=rfl) (hal:=rfl)
  ·intro a' W' hC hE
   simp at hE
   simp[go_sem,Act.eval,hE,hK2c,hK20,Kk]
  apply A5 (IntD W21.heap.size K2 (r0.s.raw.take 257)) (hg:=rfl) (hal:=rfl)
  ·exact IntD.closedL _ _ _ (by simp[Bn]<;>omega)
  ·intro a' W' hC hE
   simp at hE
   refine⟨_,_,?_,(cI.out W' W21.heap.size ((hW0.trans (hW.of_priv hz)).trans (hC.1.of_priv (Nat.le_trans hz hW.size) (by simp;omega))) hC.1.size).mono ?_⟩
   ·simp[go_sem,Act.eval,hE]
    try rfl
   ·rintro e w' ⟨v,rfl,hB,hv⟩
    exact⟨v,rfl,hB,hv⟩
  iterate 2
   apply An (hg:=rfl) (hal:=rfl)
   ·intro a W' hC hE
    obtain⟨_,k1,k2,k3,k4⟩:=hC
    have k1:=k1.cell
    have k2:=k2.cell
    first
     |(simp at hE;simp[go_sem,Act.eval,iw,hE,k1,k2,k3,k4,hiM];try rfl)
     |(clear hE;simp[go_sem,Act.eval,iw,k1,k2,k3,k4,hiM];try rfl)
  refine⟨fun _ W'=>Rex [gS] W21 W'/\Blk W' w.heap.size #[.string nm9,.int .i64 ep,.int .i64 fl,.int .i64 la,.int .i64 sc,.slice (some ⟨gS,0,none⟩) M capS,.slice pP N capP] 79/\Blk W' W.heap.size #[.int .i64 r0.s.K,.slice r0.p r0.s.runs.length r0.cap,.int .i64 r0.s.A,.int .i64 r0.s.R,.int .i64 r0.s.n,.int .i64 r0.s.d,.slice r0.q r0.s.raw.length r0.vc,.int .i64 r0.s.E] 135/\Blk W' (w.heap.size+1) #[.string .empty,.int .i64 0,.int .i64 0,.int .i64 0,.int .i64 0,.slice none 0 0,.slice none 0 0] 79/\∃v,Qi W21.heap.size K1 (r0.s.runs.take 257) v W'/\Blk W' gS (cur.setIfInBounds (i*8+1) v) 135,fun _ w w' hr ⟨h0,h1,h2,h4,v,hv,h⟩=>⟨h0.trans (hr.more (by simp)),h1.rex hr (by simp),h2.rex hr (by simp),h4.rex hr (by simp),v,Qi.closed _ _ _ _ _ _ hr hv,h.rex hr (by simp)⟩,?_,fun _ w ⟨h0,h1,h2,h4,h⟩=>⟨h0,h1,h2,h4,.inr h⟩,?_⟩
  ·intro a' W' hC hE
   refine⟨fun _=> ?_,fun e=>by rw[Ee (by rfl)] at e;cases e⟩
   simp at hE
   obtain⟨hp,p1,c1,hv,hr1⟩:=hE
   obtain⟨h0,h1,h2,h4,h3⟩:=hC
   obtain⟨x9,hx9⟩:∃x,cur[i*8+1]? =some x:=⟨_,hSC i r0 hR0 1 _ rfl⟩
   have hlt9:=(Array.getElem?_eq_some_iff.1 hx9).1
   obtain⟨cur',hb',hs',x8,hx8⟩:∃cur':Array Value,Blk W' gS cur' 135/\cur'.setIfInBounds (i*8+1) (.slice p1 K1 c1)=cur.setIfInBounds (i*8+1) (.slice p1 K1 c1)/\∃x,cur'[i*8+1]? =some x:=by
    rcases h3 with h|⟨v,hv',h⟩
    ·exact⟨cur,h,rfl,x9,hx9⟩
    ·exact⟨_,h,by rw[Array.setIfInBounds_setIfInBounds],v,by rw[Array.getElem?_setIfInBounds,if_pos rfl,if_pos hlt9]⟩
   have hcl:=Qi.closedL W21.heap.size K1 (r0.s.runs.take 257) (L:= [gS]) (by simp;omega)
   have hRx:Rex [gS] W' (W'.setCell ⟨gS,i*8+1,none⟩ (.slice p1 K1 c1)):=Rex.setOwn (Rex.refl _ _) hb' (by simp) _ _
   have hc8:W'.cell? ⟨gS,i*8+1,none⟩=some x8:=(hb'.cell _).trans hx8
   have hf8:=hb'.frozen (i*8+1)
   have hset:=hb'.set (i*8+1) (.slice p1 K1 c1)
   rw[hs'] at hset
   suffices hrun:(execOp a'.eval _).run Tryz.prog W'= .ok .skip (W'.setCell ⟨gS,i*8+1,none⟩ (.slice p1 K1 c1)) by
    rw[hrun]
    exact⟨hRx,⟨h0.trans hRx,h1.rex hRx (by simp;omega),h2.rex hRx (by simp;omega),h4.rex hRx (by simp;omega),_,hcl _ _ _ hRx ⟨p1,c1,rfl,hr1⟩,hset⟩,rfl⟩
   simp[execOp,go_sem,Act.eval,hp,hv,hc8,hf8]
  ·rintro W2 ⟨hR,d1,d2,d4,-⟩
   simp only[A6,Det,forall_eq]
   intros
   simp only[nS]
   rename IntD _ _ _ _ _=>hI
   obtain⟨p6,c6,rfl,hI6,hc6,hg6⟩:=hI
   obtain⟨-,-,-,-,v5,⟨p5,c5,rfl,hR5,hc5,hg5⟩,d3⟩:= ‹Rex [gS] W21 W2/\_/\_/\_/\_›
   replace hW:=hW.trans hR
   clear hR b1 b2 b3 b4
   have b1:=d1
   have b2:=d4
   have b3:=d3
   clear d1 d2 d3 d4
   replace hc5:=Hd hc5
   replace hc6:=Hd hc6
   have z61:=hW.size
   have z62:=b1.lt
   have z63:=b2.lt
   have z64:=b3.lt
   have k1:=b1.cell
   have f1:=b1.frozen
   have k2:=b2.cell
   have f2:=b2.frozen
   have k3:=b3.cell
   have f3:=b3.frozen
   have x1:(cur.setIfInBounds (i*8+1) (.slice p5 K1 c5))[i*8+6]? =some (.slice r0.q r0.s.raw.length r0.vc):=by rw[Array.getElem?_setIfInBounds,if_neg (by omega)];exact hSC i r0 hR0 6 _ rfl
   have hRx9:Rex [gS] W2 (W2.setCell ⟨gS,i*8+6,none⟩ (.slice p6 K2 c6)):=Rex.setOwn (Rex.refl _ _) b3 (by simp) _ _
   go_upto_region 8 with(fail)
   clear x1
   clear k1 f1 k2 f2 k3 f3
   refine wp_cutX [gS] W (Bc w.heap.size #[.string nm9,.int .i64 ep,.int .i64 fl,.int .i64 la,.int .i64 sc,.slice (some ⟨gS,0,none⟩) M capS,.slice pP N capP] 79<|Bc (w.heap.size+1) #[.string .empty,.int .i64 0,.int .i64 0,.int .i64 0,.int .i64 0,.slice none 0 0,.slice none 0 0] 79<|Bc gS ((cur.setIfInBounds (i*8+1) (.slice p5 K1 c5)).setIfInBounds (i*8+6) (.slice p6 K2 c6)) 135<|Rc (fun W'=>Al W' p5 (r0.s.runs.take 257))<|Rc (fun W'=>A3 W' p6 (r0.s.raw.take 257))<|Bz) ?_ (hI:=by exact rexAny) (hR:=(Bc.mk (by exact Ad)<|Bc.mk (by exact Ad)<|Bc.mk (by exact Ad)<|Rc.mk (by exact hR5.rex1 (L:= [gS]) (g:=gS) (by simp) (fun a e=>by have:=hg5 a e;omega) hRx9)<|Rc.mk (by exact hI6.rex1 (L:= [gS]) (g:=gS) (by simp) (fun a e=>by have:=hg6 a e;omega) hRx9)<|trivial))
   clear b1 b2 b3 hW
   rintro W65 hW z66 ⟨⟨b1,yb1,k1,f1⟩,⟨b2,yb2,k2,f2⟩,⟨b3,yb3,k3,f3⟩,b4,b5,-⟩
   clear hRx9 hR5 hI6
   go_wp2
   refine⟨?_,by simp[Ag];omega⟩
   have e1:=segRA_runs r0 (r0.s.runs.take 257) p5 c5
   rw[hK1.out] at e1
   have s1:=hSC.set hR0 (by omega:1<8) e1
   have e2:=segRA_raw ⟨⟨r0.s.K,r0.s.runs.take 257,r0.s.A,r0.s.R,r0.s.n,r0.s.d,r0.s.raw,r0.s.E⟩,p5,r0.q,c5,r0.vc⟩ (r0.s.raw.take 257) p6 c6
   rw[hK2.out] at e2
   have hR1:=List.getElem?_set_self (l:=R) (i:=i) (a:=(⟨⟨r0.s.K,r0.s.runs.take 257,r0.s.A,r0.s.R,r0.s.n,r0.s.d,r0.s.raw,r0.s.E⟩,p5,r0.q,c5,r0.vc⟩:Cn)) (List.getElem?_eq_some_iff.1 hR0).1
   have s2:=s1.set hR1 (by omega:6<8) e2
   rw[List.set_set] at s2
   have ow:Mg W65 gS r0 ⟨⟨r0.s.K,r0.s.runs.take 257,r0.s.A,r0.s.R,r0.s.n,r0.s.d,r0.s.raw.take 257,r0.s.E⟩,p5,p6,c5,c6⟩:=⟨rfl,b4,b5,by show (r0.s.raw.take 257).length<=c6;rw[hK2.out];exact hc6.out,fun a e=>by have:=hg5 a e;omega,fun a e=>by have:=hg6 a e;omega⟩
   exact⟨hW0.trans (hW.of_priv hz),b1,b2,hPX.out _ hW,i+1,_,_,b3,s2,(hOT.rex (by simp) hW).step hr0 ow,Ac rfl,by omega⟩
 ·have hlen9:(rows.take M).length=M:=by rw[List.length_take];omega
  have k1:=b1.cell
  have f1:=b1.frozen
  have k2:=b2.cell
  have f2:=b2.frozen
  have k3:=b3.cell
  have f3:=b3.frozen
  go_wp2
  have d2:Blk (((((((W.setCell ⟨w.heap.size+1,0,none⟩ (.string nm9)).setCell ⟨w.heap.size+1,1,none⟩ (.int .i64 ep)).setCell ⟨w.heap.size+1,2,none⟩ (.int .i64 fl)).setCell ⟨w.heap.size+1,3,none⟩ (.int .i64 la)).setCell ⟨w.heap.size+1,4,none⟩ (.int .i64 sc)).setCell ⟨w.heap.size+1,5,none⟩ (.slice (some ⟨gS,0,none⟩) M capS)).setCell ⟨w.heap.size+1,6,none⟩ (.slice pP N capP)) (w.heap.size+1) #[.string nm9,.int .i64 ep,.int .i64 fl,.int .i64 la,.int .i64 sc,.slice (some ⟨gS,0,none⟩) M capS,.slice pP N capP] 79:=Ad
  have d3:Blk (((((((W.setCell ⟨w.heap.size+1,0,none⟩ (.string nm9)).setCell ⟨w.heap.size+1,1,none⟩ (.int .i64 ep)).setCell ⟨w.heap.size+1,2,none⟩ (.int .i64 fl)).setCell ⟨w.heap.size+1,3,none⟩ (.int .i64 la)).setCell ⟨w.heap.size+1,4,none⟩ (.int .i64 sc)).setCell ⟨w.heap.size+1,5,none⟩ (.slice (some ⟨gS,0,none⟩) M capS)).setCell ⟨w.heap.size+1,6,none⟩ (.slice pP N capP)) gS cur 135:=Ad
  have hR9:Rex [w.heap.size+1] W (((((((W.setCell ⟨w.heap.size+1,0,none⟩ (.string nm9)).setCell ⟨w.heap.size+1,1,none⟩ (.int .i64 ep)).setCell ⟨w.heap.size+1,2,none⟩ (.int .i64 fl)).setCell ⟨w.heap.size+1,3,none⟩ (.int .i64 la)).setCell ⟨w.heap.size+1,4,none⟩ (.int .i64 sc)).setCell ⟨w.heap.size+1,5,none⟩ (.slice (some ⟨gS,0,none⟩) M capS)).setCell ⟨w.heap.size+1,6,none⟩ (.slice pP N capP)):=((((((((Rex.refl [w.heap.size+1] W).setOwn b2 (by simp) 0 _).setOwn (b2.set 0 _) (by simp) 1 _).setOwn ((b2.set 0 _).set 1 _) (by simp) 2 _).setOwn (((b2.set 0 _).set 1 _).set 2 _) (by simp) 3 _).setOwn ((((b2.set 0 _).set 1 _).set 2 _).set 3 _) (by simp) 4 _).setOwn (((((b2.set 0 _).set 1 _).set 2 _).set 3 _).set 4 _) (by simp) 5 _).setOwn ((((((b2.set 0 _).set 1 _).set 2 _).set 3 _).set 4 _).set 5 _) (by simp) 6 _)
  have hP9:Cc (((((((W.setCell ⟨w.heap.size+1,0,none⟩ (.string nm9)).setCell ⟨w.heap.size+1,1,none⟩ (.int .i64 ep)).setCell ⟨w.heap.size+1,2,none⟩ (.int .i64 fl)).setCell ⟨w.heap.size+1,3,none⟩ (.int .i64 la)).setCell ⟨w.heap.size+1,4,none⟩ (.int .i64 sc)).setCell ⟨w.heap.size+1,5,none⟩ (.slice (some ⟨gS,0,none⟩) M capS)).setCell ⟨w.heap.size+1,6,none⟩ (.slice pP N capP)) (w.heap.size+1+1) pP (pts.take N):=(((((((hP.setO (by omega) 0 _).setO (by omega) 1 _).setO (by omega) 2 _).setO (by omega) 3 _).setO (by omega) 4 _).setO (by omega) 5 _).setO (by omega) 6 _)
  obtain⟨W9,hW9⟩:∃W9,W9=(((((((W.setCell ⟨w.heap.size+1,0,none⟩ (.string nm9)).setCell ⟨w.heap.size+1,1,none⟩ (.int .i64 ep)).setCell ⟨w.heap.size+1,2,none⟩ (.int .i64 fl)).setCell ⟨w.heap.size+1,3,none⟩ (.int .i64 la)).setCell ⟨w.heap.size+1,4,none⟩ (.int .i64 sc)).setCell ⟨w.heap.size+1,5,none⟩ (.slice (some ⟨gS,0,none⟩) M capS)).setCell ⟨w.heap.size+1,6,none⟩ (.slice pP N capP)):=⟨_,rfl⟩
  rw[<-hW9] at d2 d3 hR9 hP9⊢
  clear hW9 b1 b2 b3 hP k1 f1 k2 f2 k3 f3
  have k2:=d2.cell
  have f2:=d2.frozen
  have y_2:=d2.lt
  refine bodyPost_ret (v:= .agg #[.string nm9,.int .i64 ep,.int .i64 fl,.int .i64 la,.int .i64 sc,.slice (some ⟨gS,0,none⟩) M capS,.slice pP N capP]) (by simp[results,Tryz.results38,go_sem,k2,f2,y_2]) rfl ⟨gS,capS,pP,capP,rfl,hW0.trans (hR9.of_priv hz),fun L Wx hL hr=>⟨own_segsD (d3.rex hr (fun hm=>by have:=hL _ hm;omega)) hSC hOT (by omega) (L:=(w.heap.size+1)::L) (by intro x hx;rcases List.mem_cons.1 hx with rfl|hx;omega;have:=hL x hx;omega) ((hR9.more (by simp)).trans (hr.more fun x hx=>List.mem_cons_of_mem _ hx)),(hP9.low (fun x hx=>by have:=hL x hx;omega) hr).pts,(hP9.low (fun x hx=>by have:=hL x hx;omega) hr).off⟩⟩
end Go.Proofs.YtdeghcgakkhbmaaGreat
namespace Go.Proofs.YtdeghcgakkhbmaaGreat
open Go.RowKit
structure At where
 name:ByteArray
 eps:Int
 floor:Int
 last:Int
 scale:Int
 pts:List (Int×Int)
def ptB (p:Int×Int):Bool:=btw p.1 0 281474976710656&&btw p.2 (-2305843009213693952) 2305843009213693952
def Ct (fl:Int):Int->List (Int×Int)->Bool
 |_,[]=>true
 |b,p::l=>(ptB p&&(decide (fl<=p.1)&&decide (b<p.1)))&&Ct fl p.1 l
def Fy (r:At):Bool:=Fq r.name&&(btw r.eps 0 1099511627776&&(btw r.scale (-40) 40&&(btw r.floor 0 281474976710656&&(btw r.last (-1) 281474976710656&&decide (r.pts.length<=1024)))))
def G5 (r:At):Bool:=Fy r&&(Ct r.floor (-1) r.pts&&(r.pts.isEmpty||r.last==Cs (-1) (r.pts.map (·.1))))
theorem J8 (fl:Int):∀(l:List (Int×Int)) (b:Int) (p:Int×Int),Ct fl b (l++ [p])=(Ct fl b l&&(ptB p&&(decide (fl<=p.1)&&decide (Cs b (l.map (·.1))<p.1))))
 | [],b,p=>by simp[Ct,Cs]
 |q::l,b,p=>by
  simp only[List.cons_append,Ct,List.map_cons,Cs]
  rw[J8 fl l]
  simp only[Bool.and_assoc]
theorem Lb (fl:Int):∀(l:List (Int×Int)) (b:Int),Ct fl b l=true->∀p,p∈l->ptB p=true/\fl<=p.1/\b<p.1
 | [],_,_,_,h=>by cases h
 |q::l,b,h,p,hp=>by
  simp only[Ct,Bool.and_eq_true,decide_eq_true_eq] at h
  rcases List.mem_cons.1 hp with rfl|hp
  ·exact⟨h.1.1,h.1.2.1,h.1.2.2⟩
  ·obtain⟨a,c,d⟩:=Lb fl l q.1 h.2 p hp
   exact⟨a,c,by have:=h.1.2.2;omega⟩
def X4 (r:At) (a b:Int):List (Int×Int):=r.pts.filter fun p=>decide (a<=p.1)&&decide (p.1<=b)
def someV (r:At) (a b:Int):List Int:=(X4 r a b).map (·.2)
def Dw (r:At) (p:Option Addr) (cap:Nat):Array Value:= #[.string r.name,.int .i64 r.eps,.int .i64 r.floor,.int .i64 r.last,.int .i64 r.scale,.slice p r.pts.length cap]
def goR (r:At) (i:Nat):Bool×Int:=(Fy r&&Ct r.floor (-1) (r.pts.take i),Cs (-1) ((r.pts.take i).map (·.1)))
theorem goR_step (r:At) {i:Nat} {t v:Int} {ok:Bool} {ah:Int} (h:goR r i=(ok,ah)) (hi:r.pts[i]? =some (t,v)):goR r (i+1)=(ok&&(ptB (t,v)&&(decide (r.floor<=t)&&decide (ah<t))),t):=by
 have e:r.pts.take (i+1)=r.pts.take i++ [(t,v)]:=by rw[List.take_add_one,hi];rfl
 unfold goR at h⊢
 injection h with h1 h2
 rw[e,J8,List.map_append,List.map_cons,List.map_nil,El,h2,<-h1,Bool.and_assoc]
theorem goR_end (r:At) {ok:Bool} {ah:Int} (h:goR r r.pts.length=(ok,ah)):G5 r=(ok&&(r.pts.isEmpty||r.last==ah)):=by
 unfold goR at h
 injection h with h1 h2
 rw[List.take_of_length_le (Nat.le_refl _)] at h1 h2
 unfold G5
 rw[h2,<-h1,Bool.and_assoc]
theorem goR_zero (r:At):goR r 0=(Fq r.name&&btw r.eps 0 1099511627776&&btw r.scale (-40) 40&&btw r.floor 0 281474976710656&&btw r.last (-1) 281474976710656&&decide ((r.pts.length:Int)<=1024),-1):=by
 have e:decide ((r.pts.length:Int)<=1024)=decide (r.pts.length<=1024):=by congr 1;simp only[eq_iff_iff];omega
 unfold goR Fy
 rw[e]
 simp[Ct,Cs,Bool.and_assoc]
theorem Ki (n lo hi:Int) (w:World):Cb 69 #[.int .i64 n,.int .i64 lo,.int .i64 hi] w (.bool (btw n lo hi)):=by
 unfold btw
 go_enter Tryz.func69,Tryz.ntmps69
 go_upto_region 1 with(fail)
 refine Ab w (Bz) ?_
 rintro W1 hW z2 hL
 refine Bg 9 15 hW hL ?_
 iterate 4 refine dA ?_
 iterate 3 refine gA ?_
 refine pA ?_
 refine dA ?_
 clear hW hL
 rintro W3 hW z4 hL
 simp only[ndR]
 intros
 repeat (rename Am _ _ _ _=>hgd;clear hgd)
 simp only[ndS]
 refine wpList_nil ?_
 obtain⟨-⟩:=hL
 go_wp2
 refine bodyPost_ret (by simp[results,Tryz.results69,go_sem]) rfl ⟨rfl,by exact Aa⟩
theorem c_mdPoint (t v:Int) (w:World):Cb 74 #[.agg #[.int .i64 t,.int .i64 v]] w (.bool (ptB (t,v))):=by
 unfold ptB
 go_enter Tryz.func74,Tryz.ntmps74
 go_upto_region 1 with(fail)
 refine Ab w (Bc w.heap.size #[.int .i64 t,.int .i64 v] 58<|Bz) ?_
 rintro W1 hW z2 hL
 refine Bg 9 11 hW hL ?_
 iterate 2 refine dA ?_
 refine cA (fun W' hC=>Ki t 0 281474976710656 W') ?_
 refine dA ?_
 iterate 2 refine gA ?_
 refine cG (fun hp hx W' hC=>Ki v (-2305843009213693952) 2305843009213693952 W') ?_
 refine pA ?_
 refine dA ?_
 clear hW hL
 rintro W3 hW z4 hL
 simp only[ndR]
 intros
 repeat (rename Am _ _ _ _=>hgd;clear hgd)
 simp only[ndS]
 refine wpList_nil ?_
 obtain⟨⟨b1,yb1,k1,f1⟩,-⟩:=hL
 go_wp2
 refine bodyPost_ret (by simp[results,Tryz.results74,go_sem,k1,f1,yb1]) rfl ⟨rfl,by exact Aa⟩
def crRel (w:World) (r:At) (p:Option Addr) (cap:Nat) (a':Act) (W:World):Prop:=
 Below w.heap.size w W/\Blk W w.heap.size #[.string r.name,.int .i64 r.eps,.int .i64 r.floor,.int .i64 r.last,.int .i64 r.scale,.slice p r.pts.length cap] 35/\∃(i:Nat) (ok:Bool) (ah:Int),(∃u:Nat->Value,a'= {tmps:= #[.agg #[.string r.name,.int .i64 r.eps,.int .i64 r.floor,.int .i64 r.last,.int .i64 r.scale,.slice p r.pts.length cap],.pointer (some ⟨w.heap.size,0,none⟩),.int .i64 0,.bool ok,.int .i64 ah,u 5,u 6,u 7,u 8,u 9,u 10,u 11,u 12,u 13,u 14,u 15,u 16,u 17,u 18,u 19,u 20,u 21,u 22,u 23,u 24,u 25,u 26,u 27,u 28,u 29,u 30,u 31,u 32,u 33,u 34,u 35,u 36,.slice p r.pts.length cap,.int .i64 (r.pts.length:Int),.int .i64 (i:Int),u 40,u 41,u 42,u 43,u 44,u 45,u 46,u 47,u 48,u 49,u 50,u 51,u 52,u 53,u 54,u 55,u 56,u 57,u 58,u 59,u 60,u 61,u 62,u 63,u 64,u 65,u 66,u 67,u 68,u 69,u 70,u 71,u 72,u 73,u 74,u 75,u 76,u 77],defers:= []})/\i<=r.pts.length/\goR r i=(ok,ah)
theorem Oo (r:At) (p:Option Addr) (cap:Nat) (w:World) (hp:Ar w p r.pts) (hl:r.pts.length<=2000):
  Cb 32 #[.agg (Dw r p cap)] w (.int .i64 (if G5 r=true then 0 else 380)):=by
 unfold Dw
 obtain⟨E,hE⟩:∃E:Int,(if G5 r=true then 0 else 380)=E:=⟨_,rfl⟩
 rw[hE]
 replace hE:=Hd hE
 go_enter Tryz.func32,Tryz.ntmps32
 go_upto_region 1 with(fail)
 refine Ab w (Bc w.heap.size #[.string r.name,.int .i64 r.eps,.int .i64 r.floor,.int .i64 r.last,.int .i64 r.scale,.slice p r.pts.length cap] 35<|Bz) ?_
 rintro W1 hW z2 hL
 refine Bg 30 78 hW hL ?_
 iterate 2 refine dA ?_
 refine cA (fun W' hC=>Vd r.name W') ?_
 refine dA ?_
 iterate 2 refine gA ?_
 refine cG (fun hp hx W' hC=>Ki r.eps 0 1099511627776 W') ?_
 refine pA ?_
 refine dA ?_
 iterate 2 refine gA ?_
 refine cG (fun hp hx W' hC=>Ki r.scale (-40) 40 W') ?_
 refine pA ?_
 refine dA ?_
 iterate 2 refine gA ?_
 refine cG (fun hp hx W' hC=>Ki r.floor 0 281474976710656 W') ?_
 refine pA ?_
 refine dA ?_
 iterate 2 refine gA ?_
 refine cG (fun hp hx W' hC=>Ki r.last (-1) 281474976710656 W') ?_
 refine pA ?_
 refine dA ?_
 iterate 4 refine gA ?_
 refine pA ?_
 refine dA ?_
 clear hW hL
 rintro W3 hW z4 hL
 simp only[ndR]
 intros
 repeat (rename Am _ _ _ _=>hgd;clear hgd)
 simp only[ndS]
 refine wpList_nil ?_
 obtain⟨⟨b1,yb1,k1,f1⟩,-⟩:=hL
 have h0:=goR_zero r
 obtain⟨ok,hok⟩:∃ok,(Fq r.name&&btw r.eps 0 1099511627776&&btw r.scale (-40) 40&&btw r.floor 0 281474976710656&&btw r.last (-1) 281474976710656&&decide ((r.pts.length:Int)<=1024))=ok:=⟨_,rfl⟩
 rw[hok] at h0⊢
 replace h0:=Hd h0
 clear hok
 go_wp2
 refine wp_loop (crRel w r p cap) (fun a' _=>r.pts.length-(Ag (a'.tmps.getD 39 undef)).toNat) ?_ ?_
 ·unfold crRel
  exact⟨hW,b1,0,ok,-1,Ac rfl,Nat.zero_le _,h0.out⟩
 clear b1 hW h0 k1
 rintro a' W ⟨hW0,b1,i,ok,ah,⟨u,rfl⟩,hi',hgo⟩
 have hz:=hW0.size
 have zb1:=b1.lt
 rcases Nat.lt_or_ge i r.pts.length with hlt|hge
 ·obtain⟨⟨t,v⟩,tr⟩:∃x,r.pts[i]? =some x:=⟨r.pts[i]'(by omega),List.getElem?_eq_getElem (by omega)⟩
  obtain⟨b,o,rfl,q0,q1⟩:=(hp.below hW0).at' i _ tr
  simp only at q0 q1
  have hgo2:=Hd (goR_step r hgo tr)
  have c5:=fun W=>c_mdPoint t v W
  obtain⟨B5,hB5⟩:∃B,ptB (t,v)=B:=⟨_,rfl⟩
  rw[hB5] at c5 hgo2
  replace c5:=Hd c5
  clear hgo tr hB5
  have k1:=b1.cell
  have f1:=b1.frozen
  go_upto_region 6 with(fail)
  clear k1 f1
  refine Ab W (Bc w.heap.size #[.string r.name,.int .i64 r.eps,.int .i64 r.floor,.int .i64 r.last,.int .i64 r.scale,.slice (some ⟨b,o,none⟩) r.pts.length cap] 35<|Bc W.heap.size #[.int .i64 t,.int .i64 v] 58<|Bz) ?_
  clear b1
  rintro W21 hW z22 hL
  refine Bg 19 78 hW hL ?_
  iterate 2 refine dA ?_
  refine gA ?_
  refine cG (fun hp hx W' hC=>c5.out W') ?_
  refine pA ?_
  refine dA ?_
  iterate 5 refine gA ?_
  refine pA ?_
  refine dA ?_
  iterate 4 refine gA ?_
  refine pA ?_
  refine dA ?_
  clear hW hL
  rintro W23 hW z24 hL
  simp only[ndR]
  intros
  repeat (rename Am _ _ _ _=>hgd;clear hgd)
  simp only[ndS]
  refine wpList_nil ?_
  obtain⟨⟨b1,yb1,k1,f1⟩,⟨b2,yb2,k2,f2⟩,-⟩:=hL
  go_wp2
  refine⟨?_,by simp[Ag];omega⟩
  unfold crRel
  exact⟨hW0.trans (hW.mono hz),b1,i+1,_,_,Ac rfl,by omega,by rw[hgo2.out,Bool.and_assoc,Bool.and_assoc]⟩
 ·obtain rfl:i=r.pts.length:=by omega
  have he:=goR_end r hgo
  clear hgo
  have k1:=b1.cell
  have f1:=b1.frozen
  have hn0:(0:Int)<=r.pts.length:=by omega
  cases ok with
  |false=>
   have hv:=Hd (show E=380 by rw[<-hE.out,he];rfl)
   clear he
   go_wp2
   go_ret
   exact⟨by rw[hv.out];rfl,Aa⟩
  |true=>
   by_cases h0:r.pts.length=0
   ·have h1:¬(0<(r.pts.length:Int)):=by omega
    have h2:r.pts.isEmpty=true:=by rw[List.isEmpty_iff_length_eq_zero];exact h0
    have hv:=Hd (show E=0 by rw[<-hE.out,he,h2];rfl)
    clear h0 h2 he
    go_wp2
    go_ret
    exact⟨by rw[hv.out];rfl,Aa⟩
   ·have h1:0<(r.pts.length:Int):=by omega
    have h2:r.pts.isEmpty=false:=by
     cases hh:r.pts with
     |nil=>rw[hh] at h0;exact absurd rfl h0
     |cons _ _=>rfl
    by_cases hl:r.last=ah
    ·subst hl
     have hv:=Hd (show E=0 by rw[<-hE.out,he,h2];simp)
     clear h0 h2 he
     go_wp2
     go_ret
     exact⟨by rw[hv.out];rfl,Aa⟩
    ·have hne:(r.last !=ah)=true:=by simpa using hl
     have hbe:(r.last==ah)=false:=by simpa using hl
     have hv:=Hd (show E=380 by rw[<-hE.out,he,h2,hbe];rfl)
     clear h0 h2 he hbe
     go_wp2
     go_ret
     exact⟨by rw[hv.out];rfl,Aa⟩
attribute [local simp] Oper.looksAt Op.operands Call.operands Af Det Am
theorem Tj (a:Addr) (cap:Nat) (l:List (Int×Int)) (w:World) (hl:l.length<=2000) (h:Ar w (some a) l):Calls Tryz.prog 41 #[.slice (some a) l.length cap] w fun e w'=>∃v,e= .returned v/\Below w.heap.size w w'/\RowOwn w 58 l.length (l.length*2) (Ax l) v w':=by
 have hnil:∀W,(binOp .eql 33 (.slice (some a) l.length cap) (.slice none 0 0)).run Tryz.prog W= .ok (.bool false) W:=fun W=>Lib.run_eql_slice_nil W 33 58 _ _ _ _ _ (by kernel_rfl)
 go_enter Tryz.func41,Tryz.ntmps41
 go_upto_region 3 with(fail)
 clear hnil
 have hmk:∀W,(Instr.buildSlice 33 0 #[]).run Tryz.prog W= .ok (.slice (some ⟨W.heap.size,0,none⟩) 0 0) (W.alloc (.cells #[] 58)):=fun W=>by kernel_rfl
 obtain⟨i,hi,hz0,hz1,hz2⟩:=info_parts Tryz.infoPt
 have hW:Below w.heap.size w (w.alloc (.cells #[] 58)):=Aa
 have hown0:=World.ownsRow_made (e:=58) (size:=2) (base:=w.heap.size) w #[] 0 (Nat.le_refl _) (by simp[maxLen]) (by simp)
 go_wp2_with (at_builtin;refine wpList_append_own _ rfl (.tmp 5) (.tmp 6) 33 rfl w.heap.size 58 i _ 2 16 (by kernel_rfl) hi hz0 hz1 hz2 rfl (by omega) _ 0 [] rfl hown0 a l.length cap (Ax l) rfl (by rw[Hg]) (fun j u hu=>Ul (h.below hW) j u hu) (fun v hv=>Kf l v hv) (by simp[maxLen];omega) (by omega) (by simp) ?_)
 intro v' w' hown hgr hvn
 have hB:=Hd (Ln hgr)
 replace hown:=Hd hown
 replace hvn:=Hd hvn
 clear hgr
 go_wp2
 go_ret
 obtain⟨_,h2|⟨g,cap',cur,rfl,hg,hb,hn,_,hc,ht⟩⟩:=hown.out
 ·exact(hvn.out h2.1).elim
 ·exact⟨_,rfl,hB.out,g,cap',cur,by simp,hg,hb,by omega,by simpa using ht⟩
theorem PtS.form9 {B N:Nat} {l:List (Int×Int)} {v:Value} {w:World} (h:PtS B N l v w):∃p cap,v= .slice p N cap/\Cc w B p l/\N<=cap/\(p=none->cap=0):=by
 obtain⟨p,cap,rfl,h1,h2⟩:=h.form
 refine⟨p,cap,rfl,h1,h2,?_⟩
 rcases h with⟨h,_,_⟩|⟨g,c,cur,h,_⟩
 ·injection h with _ _ h
  exact fun _=>h
 ·injection h with h _ _
  rw[h]
  intro e
  cases e
theorem raw28_w9 (nm:ByteArray) (ep fl la sc:Int) (po:Option Addr) (co:Nat) (pts:List (Int×Int)) (w:World) (N:Nat)
  (hpts:Ar w po pts) (hnilP:po=none->pts.length=0/\co=0) (hcapP:pts.length<=co)
  (hN:N<=1025) (hNr:N<=pts.length) (EN:Hid ((if (1025:Int)<(pts.length:Int) then (1025:Int) else pts.length)=(N:Int))) (hNc:(N:Int)<=co) (hN0:0<=(N:Int)) (nm9:ByteArray) (hnm:Hid ((nm.extract 0 (mn (nm.size:Int) 20).toNat)=nm9)):
  Calls Tryz.prog 14 #[.agg #[.string nm,.int .i64 ep,.int .i64 fl,.int .i64 la,.int .i64 sc,.slice po pts.length co]] w fun e w'=>∃pP capP,e= .returned (.agg #[.string nm9,.int .i64 ep,.int .i64 fl,.int .i64 la,.int .i64 sc,.slice pP N capP])/\Below w.heap.size w w'/\Cc w' w.heap.size pP (pts.take N)/\N<=capP/\(pP=none->capP=0):=by
 have cQ:=Hd (fun W B (hW:Below w.heap.size w W) (hBW:B<=W.heap.size)=>(show Calls Tryz.prog 41 #[.slice po N co] W fun e w'=>∃v,e= .returned v/\Below W.heap.size W w'/\PtS B N (pts.take N) v w' from by
  have hl:(pts.take N).length=N:=by rw[List.length_take];omega
  cases hpo:po with
  |none=>
   obtain⟨h1,h2⟩:=hnilP hpo
   have e:N=0:=by omega
   subst e
   subst h2
   refine(Zm W).mono ?_
   rintro e w' ⟨rfl,hB⟩
   exact⟨_,rfl,hB,.inl ⟨rfl,rfl,rfl⟩⟩
  |some a9=>
   have t:=Tj a9 co (pts.take N) W (by omega) (hpo▸(hpts.take9 N).below hW)
   rw[hl] at t
   refine t.mono ?_
   rintro e w' ⟨v,rfl,hB,g,c,cur,rfl,hg,h⟩
   exact⟨_,rfl,hB,.inr ⟨g,c,cur,rfl,Nat.le_trans hBW hg,h⟩⟩))
 go_enter Tryz.func14,Tryz.ntmps14
 have hmin:∀ts t x y w,(Builtin.min_ ts t #[.int .i64 x,.int .i64 y]).run Tryz.prog w= .ok (.int .i64 (mn x y)) w:=fun ts t x y w=>by simp[Builtin.min_,Builtin.min2,mn]
 have hm0:=Qo (nm.size:Int) 20
 have hm1:0<=mn (nm.size:Int) 20:=by omega
 have hm2:mn (nm.size:Int) 20<=(nm.size:Int):=hm0.1
 clear hm0
 go_upto_region 2 with(fail)
 refine Ab w (Bc w.heap.size #[.string (nm.extract 0 (mn (nm.size:Int) 20).toNat),.int .i64 ep,.int .i64 fl,.int .i64 la,.int .i64 sc,.slice po pts.length co] 35<|Bc (w.heap.size+1) #[.string .empty,.int .i64 0,.int .i64 0,.int .i64 0,.int .i64 0,.slice none 0 0] 35<|Bz) ?_
 rintro W1 hW z2 ⟨⟨b1,yb1,k1,f1⟩,⟨b2,yb2,k2,f2⟩,-⟩
 clear hmin hm1 hm2
 rw[hnm.out] at b1
 go_upto_region 2 with(fail)
 clear k1 f1 k2 f2
 refine Ab w (Bc w.heap.size #[.string nm9,.int .i64 ep,.int .i64 fl,.int .i64 la,.int .i64 sc,.slice po pts.length co] 35<|Bc (w.heap.size+1) #[.string .empty,.int .i64 0,.int .i64 0,.int .i64 0,.int .i64 0,.slice none 0 0] 35<|Bz) ?_
 clear b1 b2 hW
 rintro W3 hW z4 hL
 obtain⟨⟨b1,yb1,k1,f1⟩,⟨b2,yb2,k2,f2⟩,-⟩:=id hL
 clear k1 f1 k2 f2
 refine Bg 8 21 hW hL ?_
 iterate 5 refine dA ?_
 apply An (.int .i64 ((N:Nat):Int)) (hg:=rfl) (hal:=rfl)
 ·intro a' W' hC hE
  simp at hE
  simp[go_sem,Act.eval,hE,EN.out]
 apply An (.slice po N co) (hg:=rfl) (hal:=rfl)
 ·intro a' W' hC hE
  simp at hE
  simp[go_sem,Act.eval,hE,hNc,hN0,Kk]
 apply A5 (PtS W3.heap.size N (pts.take N)) (hg:=rfl) (hal:=rfl)
 ·exact PtS.closed _ _ _
 ·intro a' W' hC hE
  simp at hE
  refine⟨_,_,?_,(cQ.out W' W3.heap.size (hW.trans (hC.1.of_priv hW.size)) hC.1.size).mono ?_⟩
  ·simp[go_sem,Act.eval,hE]
   try rfl
  ·rintro e w' ⟨v,rfl,hB,hv⟩
   exact⟨v,rfl,hB,hv⟩
 clear hW hL b1 b2
 rintro W5 hW z6 hL
 simp only[ndR]
 intros
 simp only[ndS]
 obtain⟨⟨b1,yb1,k1,f1⟩,⟨b2,yb2,k2,f2⟩,-⟩:=hL
 have z7:=hW.size
 rename PtS _ _ _ _ _=>hp
 obtain⟨pP,capP,rfl,hP,hcP,hnP⟩:=hp.form9
 clear hp
 go_upto_region 3 with(fail)
 clear k1 f1 k2 f2
 refine Ab w (Bc w.heap.size #[.string nm9,.int .i64 ep,.int .i64 fl,.int .i64 la,.int .i64 sc,.slice pP N capP] 35<|Bc (w.heap.size+1) #[.string .empty,.int .i64 0,.int .i64 0,.int .i64 0,.int .i64 0,.slice none 0 0] 35<|Rc (fun W'=>Cc W' (w.heap.size+1+1) pP (pts.take N))<|Bz) ?_ (hI:=by exact Aa) (hR:=(Bc.mk (by exact Ad)<|Bc.mk (by exact Ad)<|Rc.mk (by exact(hP.mono (by omega)).setO (by omega) _ _)<|trivial))
 clear b1 b2 hW
 rintro W8 hW z9 ⟨⟨b1,yb1,k1,f1⟩,⟨b2,yb2,k2,f2⟩,b3,-⟩
 have hP:=b3
 clear b3
 go_wp2
 have d2:Blk ((((((W8.setCell ⟨w.heap.size+1,0,none⟩ (.string nm9)).setCell ⟨w.heap.size+1,1,none⟩ (.int .i64 ep)).setCell ⟨w.heap.size+1,2,none⟩ (.int .i64 fl)).setCell ⟨w.heap.size+1,3,none⟩ (.int .i64 la)).setCell ⟨w.heap.size+1,4,none⟩ (.int .i64 sc)).setCell ⟨w.heap.size+1,5,none⟩ (.slice pP N capP)) (w.heap.size+1) #[.string nm9,.int .i64 ep,.int .i64 fl,.int .i64 la,.int .i64 sc,.slice pP N capP] 35:=Ad
 have hB9:Below w.heap.size w ((((((W8.setCell ⟨w.heap.size+1,0,none⟩ (.string nm9)).setCell ⟨w.heap.size+1,1,none⟩ (.int .i64 ep)).setCell ⟨w.heap.size+1,2,none⟩ (.int .i64 fl)).setCell ⟨w.heap.size+1,3,none⟩ (.int .i64 la)).setCell ⟨w.heap.size+1,4,none⟩ (.int .i64 sc)).setCell ⟨w.heap.size+1,5,none⟩ (.slice pP N capP)):=Aa
 have hP9:Cc ((((((W8.setCell ⟨w.heap.size+1,0,none⟩ (.string nm9)).setCell ⟨w.heap.size+1,1,none⟩ (.int .i64 ep)).setCell ⟨w.heap.size+1,2,none⟩ (.int .i64 fl)).setCell ⟨w.heap.size+1,3,none⟩ (.int .i64 la)).setCell ⟨w.heap.size+1,4,none⟩ (.int .i64 sc)).setCell ⟨w.heap.size+1,5,none⟩ (.slice pP N capP)) (w.heap.size+1+1) pP (pts.take N):=((((((hP.setO (by omega) 0 _).setO (by omega) 1 _).setO (by omega) 2 _).setO (by omega) 3 _).setO (by omega) 4 _).setO (by omega) 5 _)
 obtain⟨W9,hW9⟩:∃W9,W9=((((((W8.setCell ⟨w.heap.size+1,0,none⟩ (.string nm9)).setCell ⟨w.heap.size+1,1,none⟩ (.int .i64 ep)).setCell ⟨w.heap.size+1,2,none⟩ (.int .i64 fl)).setCell ⟨w.heap.size+1,3,none⟩ (.int .i64 la)).setCell ⟨w.heap.size+1,4,none⟩ (.int .i64 sc)).setCell ⟨w.heap.size+1,5,none⟩ (.slice pP N capP)):=⟨_,rfl⟩
 rw[<-hW9] at d2 hB9 hP9⊢
 clear hW9 b1 b2 hP k1 f1 k2 f2
 have k2:=d2.cell
 have f2:=d2.frozen
 have y_2:=d2.lt
 refine bodyPost_ret (v:= .agg #[.string nm9,.int .i64 ep,.int .i64 fl,.int .i64 la,.int .i64 sc,.slice pP N capP]) (by simp[results,Tryz.results14,go_sem,k2,f2,y_2]) rfl ⟨pP,capP,rfl,hB9,hP9.mono (by omega),hcP,hnP⟩
structure Jh (w:World) (r:At) (p:Option Addr) (cap:Nat):Prop where
 pts:Ar w p r.pts
 nil:p=none->r.pts.length=0/\cap=0
 cap:r.pts.length<=cap
theorem Jh.below {w W:World} {r:At} {p:Option Addr} {cap:Nat} (h:Jh w r p cap) (hb:Below w.heap.size w W):Jh W r p cap:=⟨h.pts.below hb,h.nil,h.cap⟩
def Ej (r:At):At:=⟨r.name.extract 0 (mn (r.name.size:Int) 20).toNat,r.eps,r.floor,r.last,r.scale,r.pts.take (min r.pts.length 1025)⟩
theorem rawOf_len (r:At):(Ej r).pts.length<=1025:=by
 show (r.pts.take (min r.pts.length 1025)).length<=1025
 rw[List.length_take];omega
theorem rawOf_name (r:At):(Ej r).name.size<=20:=by
 have:=Qo (r.name.size:Int) 20
 show (r.name.extract 0 (mn (r.name.size:Int) 20).toNat).size<=20
 rw[ByteArray.size_extract]
 omega
theorem c_raw28N (r:At) (p:Option Addr) (cap:Nat) (w:World) (h:Jh w r p cap):
  Calls Tryz.prog 14 #[.agg (Dw r p cap)] w fun e w'=>∃p' cap',e= .returned (.agg (Dw (Ej r) p' cap'))/\Below w.heap.size w w'/\Cc w' w.heap.size p' (Ej r).pts/\(Ej r).pts.length<=cap'/\(p'=none->cap'=0):=by
 have hl:(r.pts.take (min r.pts.length 1025)).length=min r.pts.length 1025:=by rw[List.length_take];omega
 have h1:=h.cap
 refine(raw28_w9 r.name r.eps r.floor r.last r.scale p cap r.pts w (min r.pts.length 1025) h.pts h.nil h.cap (by omega) (by omega) (Hd (by split<;>omega)) (by omega) (by omega) _ (Hd rfl)).mono ?_
 rintro e w' ⟨pP,capP,rfl,hB,hP,hc,hn⟩
 refine⟨pP,capP,?_,hB,hP,?_,hn⟩
 ·unfold Dw Ej
  simp only[hl]
 ·show (r.pts.take (min r.pts.length 1025)).length<=capP
  omega
end Go.Proofs.YtdeghcgakkhbmaaGreat
namespace Go.Proofs.YtdeghcgakkhbmaaGreat
open Go.RowKit
def IntsF (w:World) (p:Option Addr) (l:List Int):Prop:=A3 w p l
theorem IntsF.rex {L:List Nat} {w w':World} {p:Option Addr} {l:List Int} (h:IntsF w p l) (hr:Rex L w w') (hL:L= []):IntsF w' p l:=by subst hL;exact A3.below h hr.below
def enRel (w:World) (p:Option Addr) (l:List Int) (cap:Nat) (x0:Int) (a':Act) (W:World):Prop:=
 Below w.heap.size w W/\∃i:Nat,(∃u:Nat->Value,a'= {tmps:= #[.slice p l.length cap,u 1,u 2,u 3,.int .i64 (Yy (x0::l.take i)),.int .i64 (Y0 (x0::l.take i)),.int .i64 (i:Int),u 7,u 8,u 9,u 10,u 11,u 12,u 13,u 14,u 15,u 16,u 17,u 18,u 19,u 20,u 21,u 22,u 23,u 24,u 25,u 26,u 27,u 28,u 29,u 30,u 31,u 32,u 33,u 34,u 35,u 36,u 37,u 38,u 39,u 40],defers:= []})/\i<=l.length
end Go.Proofs.YtdeghcgakkhbmaaGreat
