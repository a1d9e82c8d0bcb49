/- Parts of the proof that follows. No condition. -/
import Derived.Laws.AppendOwn
import Derived.Laws.MakeOwn
import Derived.Laws.CopyRow
import Derived.Lib.AppendZerosOnto
import Derived.Test.YtdeghcgakkhbmaaGreatSd14
set_option maxRecDepth 100000
set_option maxHeartbeats 8000000
set_option linter.unusedSimpArgs false
set_option linter.unusedVariables false
namespace Go.Proofs.YtdeghcgakkhbmaaGreat
open Go.RowKit
theorem Tr.get_nil {α:Type} (k:Nat):(Tr.nil:Tr α).get k=none:=rfl
theorem bq {α:Type} (a b:Nat) (x y:α):(bif Nat.beq a b then x else y)=if a=b then x else y:=by
 by_cases h:a=b
 ·subst h;rw[if_pos rfl,show Nat.beq a a=true from Nat.beq_refl a];rfl
 ·rw[if_neg h]
  cases e:Nat.beq a b with
  |false=>rfl
  |true=>exact absurd (Nat.eq_of_beq_eq_true e) h
theorem Tr.get_node {α:Type} (o:Option α) (l r:Tr α) (k:Nat):(Tr.node o l r).get k=if k=0 then o else if k%2=1 then l.get (k/2) else r.get (k/2-1):=by
 rw[<-bq,<-bq];rfl
theorem Tr.set_nil {α:Type} (n k:Nat) (v:Option α):(Tr.nil:Tr α).set (n+1) k v=if k=0 then Tr.node v .nil .nil else if k%2=1 then Tr.node none (Tr.nil.set n (k/2) v) .nil else Tr.node none .nil (Tr.nil.set n (k/2-1) v):=by
 rw[<-bq,<-bq];rfl
theorem Tr.set_node {α:Type} (n k:Nat) (o v:Option α) (l r:Tr α):(Tr.node o l r).set (n+1) k v=if k=0 then Tr.node v l r else if k%2=1 then Tr.node o (l.set n (k/2) v) r else Tr.node o l (r.set n (k/2-1) v):=by
 rw[<-bq,<-bq];rfl
theorem Tr.get_set {α:Type}:∀(n:Nat) (t:Tr α) (k:Nat) (v:Option α) (k':Nat),k+2<=2^n->(t.set n k v).get k'=if k'=k then v else t.get k'
 |0,_,_,_,_,h=>by simp at h
 |n+1,t,k,v,k',h=>by
  have hp:2^(n+1)=2*2^n:=by rw[Nat.pow_succ];omega
  cases t with
  |nil=>
   rw[Tr.set_nil,Tr.get_nil]
   by_cases h0:k=0
   ·subst h0
    rw[if_pos rfl,Tr.get_node,Tr.get_nil,Tr.get_nil]
    split<;>simp[*]
   ·rw[if_neg h0]
    by_cases h1:k%2=1
    ·rw[if_pos h1,Tr.get_node,Tr.get_set n _ _ _ _ (by omega),Tr.get_nil,Tr.get_nil]
     by_cases e:k'=k
     ·subst e;rw[if_neg h0,if_pos h1,if_pos rfl,if_pos rfl]
     ·rw[if_neg e]
      split
      ·rfl
      ·split
       ·rw[if_neg (by omega)]
       ·rfl
    ·rw[if_neg h1,Tr.get_node,Tr.get_set n _ _ _ _ (by omega),Tr.get_nil,Tr.get_nil]
     by_cases e:k'=k
     ·subst e;rw[if_neg h0,if_neg h1,if_pos rfl,if_pos rfl]
     ·rw[if_neg e]
      split
      ·rfl
      ·split
       ·rfl
       ·rw[if_neg (by omega)]
  |node o l r=>
   rw[Tr.set_node,Tr.get_node]
   by_cases h0:k=0
   ·subst h0
    rw[if_pos rfl,Tr.get_node]
    split<;>simp[*]
   ·rw[if_neg h0]
    by_cases h1:k%2=1
    ·rw[if_pos h1,Tr.get_node,Tr.get_set n _ _ _ _ (by omega)]
     by_cases e:k'=k
     ·subst e;rw[if_neg h0,if_pos h1,if_pos rfl,if_pos rfl]
     ·rw[if_neg e]
      split
      ·rfl
      ·split
       ·rw[if_neg (by omega)]
       ·rfl
    ·rw[if_neg h1,Tr.get_node,Tr.get_set n _ _ _ _ (by omega)]
     by_cases e:k'=k
     ·subst e;rw[if_neg h0,if_neg h1,if_pos rfl,if_pos rfl]
     ·rw[if_neg e]
      split
      ·rfl
      ·split
       ·rfl
       ·rw[if_neg (by omega)]
abbrev Rn:=Nat->Option (Nat×Nat)
inductive VR (r:Rn):Value->Value->Prop where
 |pln {v:Value} (h:pl v=true):VR r v v
 |ptr {k off b x:Nat} (h:r k=some (b,x)):VR r (.pointer (some ⟨k,off,none⟩)) (.pointer (some ⟨b,off,none⟩))
 |sl {k off b x n c:Nat} (h:r k=some (b,x)):VR r (.slice (some ⟨k,off,none⟩) n c) (.slice (some ⟨b,off,none⟩) n c)
 |so {k off b x n c:Nat} (h:r k=some (b,x)):VR r (.slice (some ⟨k,off,some 0⟩) n c) (.slice (some ⟨b,off,none⟩) n (c+x))
 |mp {k b x:Nat} (h:r k=some (b,x)):VR r (.map (some k)) (.map (some b))
 |yl {k b x:Nat} (h:r k=some (b,x)):VR r (.func (.yield k) #[] #[]) (.func (.yield b) #[] #[])
 |fn {g:FuncId} {f f' c c':Array Value} (h1:f.size=f'.size) (h2:∀(i:Nat) v v',f[i]? =some v->f'[i]? =some v'->VR r v v') (h3:c.size=c'.size) (h4:∀(i:Nat) v v',c[i]? =some v->c'[i]? =some v'->VR r v v'):VR r (.func (.func g) f c) (.func (.func g) f' c')
 |ag {c c':Array Value} (h3:c.size=c'.size) (h4:∀(i:Nat) v v',c[i]? =some v->c'[i]? =some v'->VR r v v'):VR r (.agg c) (.agg c')
 |tu {c c':Array Value} (h3:c.size=c'.size) (h4:∀(i:Nat) v v',c[i]? =some v->c'[i]? =some v'->VR r v v'):VR r (.tuple c) (.tuple c')
def AR (r:Rn) (c c':Array Value):Prop:=c.size=c'.size/\∀(i:Nat) v v',c[i]? =some v->c'[i]? =some v'->VR r v v'
def LR (r:Rn) (c c':List Value):Prop:=c.length=c'.length/\∀(i:Nat) v v',c[i]? =some v->c'[i]? =some v'->VR r v v'
theorem AR.list {r:Rn} {c c':Array Value} (h:AR r c c'):LR r c.toList c'.toList:=⟨by simpa using h.1,fun i v v' h1 h2=>h.2 i v v' (by simpa using h1) (by simpa using h2)⟩
theorem LR.arr {r:Rn} {c c':List Value} (h:LR r c c'):AR r c.toArray c'.toArray:=⟨by simpa using h.1,fun i v v' h1 h2=>h.2 i v v' (by simpa using h1) (by simpa using h2)⟩
theorem LR.nil {r:Rn}:LR r [] []:=⟨rfl,fun i v v' h=>by simp at h⟩
theorem LR.cons {r:Rn} {v v':Value} {l l':List Value} (h:VR r v v') (hl:LR r l l'):LR r (v::l) (v'::l'):=⟨by simp[hl.1],fun i a a' h1 h2=>by
 cases i with
 |zero=>simp at h1 h2;subst h1;subst h2;exact h
 |succ i=>exact hl.2 i a a' (by simpa using h1) (by simpa using h2)⟩
theorem LR.uncons {r:Rn} {v:Value} {l l':List Value} (h:LR r (v::l) l'):∃v' q,l'=v'::q/\VR r v v'/\LR r l q:=by
 cases l' with
 |nil=>have:=h.1;simp at this
 |cons v' q=>exact⟨v',q,rfl,h.2 0 v v' rfl rfl,by have:=h.1;simpa using this,fun i a a' h1 h2=>h.2 (i+1) a a' (by simpa using h1) (by simpa using h2)⟩
theorem LR.nil' {r:Rn} {l':List Value} (h:LR r [] l'):l'= []:=by have:=h.1;simpa using this.symm
theorem LR.get {r:Rn} {c c':List Value} (h:LR r c c') {i:Nat} {v:Value} (hv:c[i]? =some v):∃v',c'[i]? =some v'/\VR r v v':=by
 have hi:i<c.length:=(List.getElem?_eq_some_iff.1 hv).1
 exact⟨c'[i]'(by rw[<-h.1];exact hi),by simp[h.1▸hi],h.2 i v _ hv (by simp[h.1▸hi])⟩
theorem AR.get {r:Rn} {c c':Array Value} (h:AR r c c') {i:Nat} {v:Value} (hv:c[i]? =some v):∃v',c'[i]? =some v'/\VR r v v':=by
 obtain⟨v',h1,h2⟩:=h.list.get (i:=i) (v:=v) (by simpa using hv)
 exact⟨v',by simpa using h1,h2⟩
theorem LR.app {r:Rn}:∀ {a a' b b':List Value},LR r a a'->LR r b b'->LR r (a++b) (a'++b')
 | [],a',b,b',h,k=>by rw[h.nil'];exact k
 |v::a,a',b,b',h,k=>by
  obtain⟨v',q,rfl,h1,h2⟩:=h.uncons
  exact LR.cons h1 (LR.app h2 k)
theorem Nr :∀(n:Nat) (l:List Value),T7 n l=l.take n
 |0,l=>by simp[T7]
 |n+1,[]=>rfl
 |n+1,v::l=>by simp[T7,Nr n l]
theorem Og :∀(n:Nat) (l:List Value),Zk n l=l.drop n
 |0,l=>rfl
 |n+1,[]=>rfl
 |n+1,v::l=>by simp[Zk,Og n l]
theorem LR.take {r:Rn} (n:Nat) {c c':List Value} (h:LR r c c'):LR r (c.take n) (c'.take n):=⟨by simp[h.1],fun i v v' h1 h2=>by
 rw[List.getElem?_take] at h1 h2
 by_cases hi:i<n
 ·rw[if_pos hi] at h1 h2;exact h.2 i v v' h1 h2
 ·rw[if_neg hi] at h1;cases h1⟩
theorem LR.drop {r:Rn} (n:Nat) {c c':List Value} (h:LR r c c'):LR r (c.drop n) (c'.drop n):=⟨by simp[h.1],fun i v v' h1 h2=>by
 rw[List.getElem?_drop] at h1 h2
 exact h.2 _ v v' h1 h2⟩
theorem LR.map {r:Rn} {α:Type} (f f':α->Value):∀(l:List α),(∀x∈l,VR r (f x) (f' x))->LR r (l.map f) (l.map f')
 | [],_=>LR.nil
 |x::l,h=>LR.cons (h x (by simp)) (LR.map f f' l fun y hy=>h y (by simp[hy]))
theorem VR.mono {r r':Rn} (hr:∀k p,r k=some p->r' k=some p) {v v':Value} (h:VR r v v'):VR r' v v':=by
 induction h with
 |pln h=>exact .pln h
 |ptr h=>exact .ptr (hr _ _ h)
 |sl h=>exact .sl (hr _ _ h)
 |so h=>exact .so (hr _ _ h)
 |mp h=>exact .mp (hr _ _ h)
 |yl h=>exact .yl (hr _ _ h)
 |fn h1 _ h3 _ i2 i4=>exact .fn h1 i2 h3 i4
 |ag h3 _ i4=>exact .ag h3 i4
 |tu h3 _ i4=>exact .tu h3 i4
theorem AR.mono {r r':Rn} (hr:∀k p,r k=some p->r' k=some p) {c c':Array Value} (h:AR r c c'):AR r' c c':=⟨h.1,fun i v v' h1 h2=>(h.2 i v v' h1 h2).mono hr⟩
theorem LR.mono {r r':Rn} (hr:∀k p,r k=some p->r' k=some p) {c c':List Value} (h:LR r c c'):LR r' c c':=⟨h.1,fun i v v' h1 h2=>(h.2 i v v' h1 h2).mono hr⟩
theorem Wa :∀ {l:List Value},pls l=true->∀v∈l,pl v=true
 | [],_,v,hv=>by cases hv
 |a::l,h,v,hv=>by
  simp only[pls,Bool.and_eq_true] at h
  rcases List.mem_cons.1 hv with rfl|hv
  ·exact h.1
  ·exact Wa h.2 v hv
theorem LR.plain {r:Rn} {l:List Value} (h:pls l=true):LR r l l:=⟨rfl,fun i v v' h1 h2=>by
 rw[h1] at h2;injection h2 with e;subst e
 exact .pln (Wa h v (List.mem_of_getElem? h1))⟩
theorem Z4 {c c':Array Value} (h3:c.size=c'.size) (i4:∀(i:Nat) v v',c[i]? =some v->c'[i]? =some v'->pl v=true->v'=v) (hp:pls c.toList=true):c'=c:=by
 apply Array.ext h3.symm
 intro i h1 h2
 have e1:c[i]? =some c[i]:=by simp[h2]
 have e2:c'[i]? =some c'[i]:=by simp[h1]
 exact i4 i _ _ e1 e2 (Wa hp _ (by simp))
theorem VR.same {r:Rn} {v v':Value} (h:VR r v v'):pl v=true->v'=v:=by
 induction h with
 |pln h=>exact fun _=>rfl
 |ptr h=>intro h;simp[pl] at h
 |sl h=>intro h;simp[pl] at h
 |so h=>intro h;simp[pl] at h
 |mp h=>intro h;simp[pl] at h
 |yl h=>intro h;simp[pl] at h
 | @fn g f f' c c' h1 _ h3 _ i2 i4=>
  intro h
  obtain⟨f⟩:=f;obtain⟨c⟩:=c;obtain⟨f'⟩:=f';obtain⟨c'⟩:=c'
  cases f<;>cases c<;>simp[pl] at h
  obtain rfl:f'= []:=List.length_eq_zero_iff.1 (by simpa using h1.symm)
  obtain rfl:c'= []:=List.length_eq_zero_iff.1 (by simpa using h3.symm)
  rfl
 | @ag c c' h3 _ i4=>
  intro h
  rw[Z4 h3 i4 (by obtain⟨c⟩:=c;simpa [pl] using h)]
 | @tu c c' h3 _ i4=>
  intro h
  rw[Z4 h3 i4 (by obtain⟨c⟩:=c;simpa [pl] using h)]
theorem LR.same {r:Rn}:∀ {l l':List Value},LR r l l'->pls l=true->l'=l
 | [],l',h,_=>h.nil'
 |v::l,l',h,hp=>by
  obtain⟨v',q,rfl,h1,h2⟩:=h.uncons
  simp only[pls,Bool.and_eq_true] at hp
  rw[h1.same hp.1,LR.same h2 hp.2]
theorem VR.cells {r:Rn} {v v':Value} (h:VR r v v'):LR r v.cells.toList v'.cells.toList:=by
 cases h with
 |pln h=>
  cases v<;>try exact LR.cons (.pln h) LR.nil
  rename_i c
  obtain⟨c⟩:=c
  exact LR.plain (show pls c=true by simpa [pl] using h)
 |ptr h=>exact LR.cons (.ptr h) LR.nil
 |sl h=>exact LR.cons (.sl h) LR.nil
 |so h=>exact LR.cons (.so h) LR.nil
 |mp h=>exact LR.cons (.mp h) LR.nil
 |yl h=>exact LR.cons (.yl h) LR.nil
 |fn h1 h2 h3 h4=>exact LR.cons (.fn h1 h2 h3 h4) LR.nil
 |ag h3 h4=>exact AR.list ⟨h3,h4⟩
 |tu h3 h4=>exact LR.cons (.tu h3 h4) LR.nil
theorem VR.bool {r:Rn} {b:Bool} {v':Value} (h:VR r (.bool b) v'):v'= .bool b:=h.same rfl
theorem VR.int {r:Rn} {k:IntKind} {n:Int} {v':Value} (h:VR r (.int k n) v'):v'= .int k n:=h.same rfl
theorem VR.str {r:Rn} {s:ByteArray} {v':Value} (h:VR r (.string s) v'):v'= .string s:=h.same rfl
theorem VR.one {r:Rn} {v v':Value} (h:VR r v v'):v'.oneCell'=v.oneCell':=by cases h<;>rfl
theorem N0 :∀ {l:List Value},Fa l=true->∀v∈l,v.oneCell'=true
 | [],_,v,hv=>by cases hv
 |a::l,h,v,hv=>by
  simp only[Fa,Bool.and_eq_true] at h
  rcases List.mem_cons.1 hv with rfl|hv
  ·exact h.1
  ·exact N0 h.2 v hv
theorem LR.oneAll {r:Rn}:∀ {l l':List Value},LR r l l'->Fa l=true->∀v∈l',v.oneCell'=true
 | [],l',h,_,v,hv=>by rw[h.nil'] at hv;cases hv
 |a::l,l',h,ho,v,hv=>by
  obtain⟨v',q,rfl,h1,h2⟩:=h.uncons
  simp only[Fa,Bool.and_eq_true] at ho
  rcases List.mem_cons.1 hv with rfl|hv
  ·rw[h1.one];exact ho.1
  ·exact LR.oneAll h2 ho.2 v hv
def SlR (r:Rn) (t:Tr Value) (m:Nat) (tm:Array Value):Prop:=tm.size=m/\m<=big/\∀s,VR r ((t.get s).getD undef) (tm.getD s undef)
theorem SlR.mono {r r':Rn} (hr:∀k p,r k=some p->r' k=some p) {t:Tr Value} {m:Nat} {tm:Array Value} (h:SlR r t m tm):SlR r' t m tm:=⟨h.1,h.2.1,fun s=>(h.2.2 s).mono hr⟩
theorem SlR.put {r:Rn} {t:Tr Value} {m:Nat} {tm:Array Value} (h:SlR r t m tm) {d:Nat} (hd:d<m) {v v':Value} (hv:VR r v v'):SlR r (t.set 24 d (some v)) m (tm.setIfInBounds d v'):=by
 refine⟨by simpa using h.1,h.2.1,fun s=> ?_⟩
 have hb:d+2<=2^24:=by have:=h.2.1;unfold big at this;omega
 rw[Tr.get_set 24 t d _ s hb]
 by_cases e:s=d
 ·subst e
  rw[if_pos rfl]
  have:(tm.setIfInBounds s v').getD s undef=v':=by simp[h.1,hd]
  rw[this];exact hv
 ·rw[if_neg e]
  have:(tm.setIfInBounds d v').getD s undef=tm.getD s undef:=by simp[Array.getElem?_setIfInBounds_ne (Ne.symm e)]
  rw[this];exact h.2.2 s
def OR (P:Program) (r:Rn) (x:Nat):AO->Obj->Prop
 | .cells cs t op,o=>∃a:Array Value,o= .cells a t (0,0)/\a.size=cs.length+(if op=true then x*(szB P t).getD 0 else 0)/\∀(i:Nat) v,cs[i]? =some v->∃v',a[i]? =some v'/\VR r v v'/\v.oneCell'=true
 | .map es c,o=>∃es':Array MapEntry,o= .map es' c/\es'.size=es.length/\∀(i:Nat) e,es[i]? =some e->∃e',es'[i]? =some e'/\e'.key=e.key/\VR r e.val e'.val
 | .iter s pos,o=>o= .stringIter s pos
 | .loop st pend t m ps asg body d,o=>∃fn tm b y,o= .loop {state:=st,pending:=pend,fn:=fn,tmps:=tm,params:=ps,assign:=asg,body:=body,defers:=b}/\r d=some (b,y)/\SlR r t m tm
 | .dfr op,o=>o= .deferred (if op=true then some [] else none)
theorem OR.mono {P:Program} {r r':Rn} (hr:∀k p,r k=some p->r' k=some p) {x:Nat} {o:AO} {o':Obj} (h:OR P r x o o'):OR P r' x o o':=by
 cases o with
 |cells cs t op=>
  obtain⟨a,h1,h2,h3⟩:=h
  exact⟨a,h1,h2,fun i v hv=>let ⟨v',a1,a2,a3⟩:=h3 i v hv;⟨v',a1,a2.mono hr,a3⟩⟩
 |map es c=>
  obtain⟨a,h1,h2,h3⟩:=h
  exact⟨a,h1,h2,fun i v hv=>let ⟨v',a1,a2,a3⟩:=h3 i v hv;⟨v',a1,a2,a3.mono hr⟩⟩
 |iter s pos=>exact h
 |loop st pend t m ps asg body d=>
  obtain⟨fn,tm,b,y,h1,h2,h3⟩:=h
  exact⟨fn,tm,b,y,h1,hr _ _ h2,h3.mono hr⟩
 |dfr op=>exact h
structure Rel (P:Program) (B:Nat) (r:Rn) (s:St) (w:World):Prop where
 nb:s.next<=big
 le:s.next<=B
 dom:∀k,s.next<=k->k<B->r k=none
 obj:∀k o,s.get k=some o->∃b x o',r k=some (b,x)/\w.heap[b]? =some o'/\OR P r x o o'
 inj:∀k k' b x x',s.get k≠none->s.get k'≠none->r k=some (b,x)->r k'=some (b,x')->k=k'
 up:∀k,s.next<=k->s.T.get k=none
 hlt:∀k,A4 s.hid k=true->k<s.next
 gl:∀g,g<s.ng->r g=some (g,0)
 gn:s.ng<=s.next
def wrt (s:St) (k:Nat):Prop:=s.lim<=k∨k=s.one
structure Kq (s s':St):Prop where
 next:s.next<=s'.next
 lim:s'.lim=s.lim
 one:s'.one=s.one
 hid:s'.hid=s.hid
 same:∀k,k<s.next->(¬wrt s k∨A4 s.hid k=true)->s'.T.get k=s.T.get k
 dead:∀k,k<s.next->s.T.get k=none->s'.T.get k=none
 up:(∀k,s.next<=k->s.T.get k=none)->∀k,s'.next<=k->s'.T.get k=none
 ng:s'.ng=s.ng
structure Ext (s s':St) (r r':Rn) (w w':World):Prop where
 rr:∀k,k<s.next∨s'.next<=k->r' k=r k
 size:w.heap.size<=w'.heap.size
 os:w'.os=w.os
 tape:w'.tape=w.tape
 output:w'.output=w.output
 frame:∀b,b<w.heap.size->(∀k x,k<s.next->wrt s k->s.get k≠none->r k≠some (b,x))->w'.heap[b]? =w.heap[b]?
 new:∀k b x,s.next<=k->s'.get k≠none->r' k=some (b,x)->w.heap.size<=b∨∃k0 x0,k0<s.next/\wrt s k0/\s.get k0≠none/\r k0=some (b,x0)
structure Dl (P:Program) (B:Nat) (s s':St) (r r':Rn) (w w':World):Prop where
 mono:Kq s s'
 ext:Ext s s' r r' w w'
 rel:Rel P B r' s' w'
theorem Rel.lt {P:Program} {B:Nat} {r:Rn} {s:St} {w:World} (h:Rel P B r s w) {k:Nat} (hk:s.get k≠none):k<s.next:=by
 rcases Nat.lt_or_ge k s.next with h1|h1
 ·exact h1
 ·exfalso;apply hk
  unfold St.get
  rw[h.up k h1]
  cases A4 s.hid k<;>rfl
theorem Kq.refl (s:St):Kq s s:=⟨Nat.le_refl _,rfl,rfl,rfl,fun _ _ _=>rfl,fun _ _ h=>h,fun h=>h,rfl⟩
theorem Kq.get {s s':St} (m:Kq s s') {k:Nat} (hk:k<s.next) (h:s'.get k≠none):s.get k≠none:=by
 unfold St.get at h⊢
 rw[m.hid] at h
 cases hh:A4 s.hid k with
 |true=>rw[hh] at h;exact absurd rfl h
 |false=>
  rw[hh] at h
  intro h0
  exact h (m.dead k hk h0)
theorem Kq.trans {a b c:St} (m:Kq a b) (n:Kq b c):Kq a c:=
 ⟨Nat.le_trans m.next n.next,n.lim.trans m.lim,n.one.trans m.one,n.hid.trans m.hid,
  fun k hk h=>(n.same k (Nat.lt_of_lt_of_le hk m.next) (by unfold wrt at*;rw[m.lim,m.one,m.hid];exact h)).trans (m.same k hk h),
  fun k hk h=>n.dead k (Nat.lt_of_lt_of_le hk m.next) (m.dead k hk h),fun h=>n.up (m.up h),n.ng.trans m.ng⟩
theorem Dl.refl {P:Program} {B:Nat} {s:St} {r:Rn} {w:World} (h:Rel P B r s w):Dl P B s s r r w w:=
 ⟨Kq.refl s,⟨fun _ _=>rfl,Nat.le_refl _,rfl,rfl,rfl,fun _ _ _=>rfl,fun k b x hk hg _=>absurd (h.lt hg) (by omega)⟩,h⟩
theorem Dl.up {P:Program} {B:Nat} {s s':St} {r r':Rn} {w w':World} (g:Dl P B s s' r r' w w') (h:Rel P B r s w):∀k p,r k=some p->r' k=some p:=fun k p hk=>by
 rw[g.ext.rr k ?_]
 ·exact hk
 ·rcases Nat.lt_or_ge k s.next with h1|h1
  ·exact .inl h1
  ·rcases Nat.lt_or_ge k s'.next with h2|h2
   ·have:=h.dom k h1 (Nat.lt_of_lt_of_le h2 g.rel.le)
    rw[this] at hk;cases hk
   ·exact .inr h2
theorem Dl.trans {P:Program} {B:Nat} {a b c:St} {ra rb rc:Rn} {wa wb wc:World} (g:Dl P B a b ra rb wa wb) (h:Dl P B b c rb rc wb wc):Dl P B a c ra rc wa wc:=by
 have hn:=g.mono.next
 refine⟨g.mono.trans h.mono,⟨fun k hk=>(h.ext.rr k (by have:=h.mono.next;omega)).trans (g.ext.rr k (by have:=h.mono.next;omega)),Nat.le_trans g.ext.size h.ext.size,h.ext.os.trans g.ext.os,h.ext.tape.trans g.ext.tape,h.ext.output.trans g.ext.output,fun bl hb hi=> ?_,fun k bl x hk hg hr=> ?_⟩,h.rel⟩
 ·refine(h.ext.frame bl (Nat.lt_of_lt_of_le hb g.ext.size) fun k x hk hw hg hr=> ?_).trans (g.ext.frame bl hb hi)
  have hw':wrt a k:=by unfold wrt at*;rw[<-g.mono.lim,<-g.mono.one];exact hw
  rcases Nat.lt_or_ge k a.next with h1|h1
  ·exact hi k x h1 hw' (g.mono.get h1 hg) (by rw[<-g.ext.rr k (.inl h1)];exact hr)
  ·rcases g.ext.new k bl x h1 hg hr with h2|⟨k0,x0,e1,e2,e3,e4⟩
   ·omega
   ·exact hi k0 x0 e1 e2 e3 e4
 ·rcases Nat.lt_or_ge k b.next with h1|h1
  ·exact g.ext.new k bl x hk (h.mono.get h1 hg) (by rw[<-h.ext.rr k (.inl h1)];exact hr)
  ·rcases h.ext.new k bl x h1 hg hr with h2|⟨k0,x0,e1,e2,e3,e4⟩
   ·exact .inl (Nat.le_trans g.ext.size h2)
   ·have e2':wrt a k0:=by unfold wrt at*;rw[<-g.mono.lim,<-g.mono.one];exact e2
    rcases Nat.lt_or_ge k0 a.next with h3|h3
    ·exact .inr ⟨k0,x0,h3,e2',g.mono.get h3 e3,by rw[<-g.ext.rr k0 (.inl h3)];exact e4⟩
    ·exact g.ext.new k0 bl x0 h3 e3 e4
theorem M2 {α:Type} {P:Program}:∀ {s:Sem α} {a:α},pv P s=some a->∀w,s.run P w= .ok a w
 | .pure a,b,h,w=>by simp[pv] at h;subst h;rfl
 | .program k,b,h,w=>by simp only[pv] at h;exact M2 (s:=k P) h w
 | .mark m k,b,h,w=>by simp only[pv] at h;exact M2 (s:=k) h w
 | .load ..,_,h,_=>by simp[pv] at h
 | .store ..,_,h,_=>by simp[pv] at h
 | .new ..,_,h,_=>by simp[pv] at h
 | .shape ..,_,h,_=>by simp[pv] at h
 | .freeze ..,_,h,_=>by simp[pv] at h
 | .frozen ..,_,h,_=>by simp[pv] at h
 | .getObj ..,_,h,_=>by simp[pv] at h
 | .setObj ..,_,h,_=>by simp[pv] at h
 | .choose ..,_,h,_=>by simp[pv] at h
 | .sys ..,_,h,_=>by simp[pv] at h
 | .halt ..,_,h,_=>by simp[pv] at h
theorem Vi {P:Program} {t:TypeId} (h:aggB P t=some true) (w:World):(isAgg t).run P w= .ok true w:=by
 unfold aggB at h
 cases hu:P.underlying t with
 |none=>rw[hu] at h;cases h
 |some d=>rw[hu] at h;cases d<;>simp at h<;>simp[isAgg,run_underlying hu]
theorem Sw {P:Program} {t:TypeId} (h:aggB P t=some false) (w:World):(isAgg t).run P w= .ok false w:=by
 unfold aggB at h
 cases hu:P.underlying t with
 |none=>rw[hu] at h;cases h
 |some d=>rw[hu] at h;cases d<;>simp at h<;>simp[isAgg,run_underlying hu]
theorem Dz {P:Program} {t:TypeId} {n:Nat} (h:szB P t=some n) (w:World):(sizeOf t).run P w= .ok n w:=by
 unfold szB at h
 cases hi:P.info? t with
 |none=>rw[hi] at h;cases h
 |some i=>rw[hi] at h;simp at h;subst h;simp[sizeOf,typeInfo,hi]
theorem Un {P:Program} {r:Rn} {t:TypeId} {cs cs':Array Value} {off:Nat} {v:Value} (h:partB P t cs off=some v) (hc:AR r cs cs'):∃v',VR r v v'/\∀w,(part t cs' off).run P w= .ok v' w:=by
 unfold partB at h
 split at h
 ·rename_i n ha hs
  injection h with h;subst h
  refine⟨.agg (cs'.extract off (off+n)),?_,fun w=>by simp[part,Vi ha,Dz hs]⟩
  have e:∀a:Array Value,a.extract off (off+n)=((a.toList.drop off).take n).toArray:=fun a=>by apply Array.ext';simp
  rw[e,e]
  obtain⟨h1,h2⟩:=((hc.list.drop off).take n).arr
  exact .ag h1 h2
 ·rename_i ha hs
  obtain⟨v',h1,h2⟩:=hc.get h
  exact⟨v',h2,fun w=>by simp[part,Sw ha,h1]⟩
 ·cases h
theorem Jr {P:Program} {r:Rn} {ρ ρ':Operand->Value} {o:Oper} {v:Value} (h:pvV P ρ o=some v) (hs:∀cs b,o.op≠ .select cs b) (hρ:∀x∈o.op.operands,VR r (ρ x) (ρ' x)) (hp:∀x∈o.op.operands,pl (ρ x)=true):
  ∃v',VR r v v'/\∀w,(execOp ρ' o).run P w= .ok (.value v') w:=by
 have e:=execOp_congr (ρ:=ρ') (ρ':=ρ) o hs fun x hx=>(hρ x hx).same (hp x hx)
 unfold pvV at h
 split at h
 ·rename_i v0 hpv
  cases hv:pl v0 with
  |false=>rw[hv] at h;cases h
  |true=>
   rw[hv] at h
   injection h with h;subst h
   exact⟨v0,.pln hv,fun w=>by rw[e];exact M2 hpv w⟩
 ·cases h
theorem Sb {r:Rn} (off:Nat):∀(l l':List Value) (n:Nat) (c c':Array Value),LR r l l'->AR r c c'->AR r ((l.zipIdx n).foldl (fun cs (x:Value×Nat)=>cs.setIfInBounds (off+x.2) x.1) c) ((l'.zipIdx n).foldl (fun cs (x:Value×Nat)=>cs.setIfInBounds (off+x.2) x.1) c')
 | [],l',n,c,c',h,hc=>by rw[h.nil'];exact hc
 |v::l,l',n,c,c',h,hc=>by
  obtain⟨v',q,rfl,h1,h2⟩:=h.uncons
  simp only[List.zipIdx_cons,List.foldl_cons]
  refine Sb off l q (n+1) _ _ h2 ⟨by simp[hc.1],fun i a a' e1 e2=> ?_⟩
  rw[Array.getElem?_setIfInBounds] at e1 e2
  by_cases hi:off+n=i
  ·subst hi
   rw[if_pos rfl] at e1 e2
   by_cases hs:off+n<c.size
   ·rw[if_pos hs] at e1;rw[if_pos (hc.1▸hs)] at e2
    injection e1 with e1;injection e2 with e2;subst e1;subst e2;exact h1
   ·rw[if_neg hs] at e1;cases e1
  ·rw[if_neg hi] at e1 e2
   exact hc.2 i a a' e1 e2
theorem Qt {r:Rn} (place:Nat->Option (Nat×Nat)):∀(ps ps':List (Nat×Value)) (c c' out:Array Value),ps.map (·.1)=ps'.map (·.1)->(∀(i:Nat) (p p':Nat×Value),ps[i]? =some p->ps'[i]? =some p'->VR r p.2 p'.2)->AR r c c'->Instr.fill place c ps=some out->∃out',Instr.fill place c' ps'=some out'/\AR r out out'
 | [],ps',c,c',out,e,hp,hc,h=>by
  cases ps' with
  |nil=>simp[Instr.fill] at h;subst h;exact⟨c',rfl,hc⟩
  |cons p q=>simp at e
 |(i,v)::ps,ps',c,c',out,e,hp,hc,h=>by
  cases ps' with
  |nil=>simp at e
  |cons p q=>
   obtain⟨i',v'⟩:=p
   simp only[List.map_cons,List.cons.injEq] at e
   obtain⟨rfl,e⟩:=e
   have hv:VR r v v':=hp 0 _ _ rfl rfl
   have hcv:=hv.cells
   have hsz:v.cells.size=v'.cells.size:=by simpa using hcv.1
   simp only[Instr.fill] at h⊢
   cases hpl:place i with
   |none=>rw[hpl] at h;cases h
   |some ab=>
    obtain⟨a,b⟩:=ab
    rw[hpl] at h
    simp only at h⊢
    split at h
    ·cases h
    ·rename_i hn
     rw[if_neg (by rw[<-hsz,<-hc.1];exact hn)]
     refine Qt place ps q _ _ out e (fun k p p' h1 h2=>hp (k+1) p p' (by simpa using h1) (by simpa using h2)) ?_ h
     have:=Sb (r:=r) a v.cells.toList v'.cells.toList 0 c c' hcv hc
     have fe:∀(b c:Array Value),b.zipIdx.foldl (fun cs (x:Value×Nat)=>cs.setIfInBounds (a+x.2) x.1) c=b.toList.zipIdx.foldl (fun cs (x:Value×Nat)=>cs.setIfInBounds (a+x.2) x.1) c:=fun b c=>by rw[<-Array.foldl_toList,Array.toList_zipIdx]
     rw[<-fe,<-fe] at this
     exact this
theorem VR.undef {r:Rn}:VR r undef undef:= .pln rfl
theorem Ed {P:Program} {t:TypeId} {z:Value} (h:Kr P t=some z):∃i,P.info? t=some i/\i.zero=some z/\pl z=true:=by
 unfold Kr at h
 cases hi:P.info? t with
 |none=>rw[hi] at h;cases h
 |some it=>
  rw[hi] at h
  simp only[Option.bind_some] at h
  cases hz:it.zero with
  |none=>rw[hz] at h;cases h
  |some z'=>
   rw[hz] at h
   simp only[Option.bind_some] at h
   cases e:pl z' with
   |true=>rw[e] at h;injection h with h;subst h;exact⟨it,rfl,hz,e⟩
   |false=>rw[e] at h;cases h
theorem built_ok {P:Program} {r:Rn} {t:TypeId} {ps ps':List (Nat×Value)} {out:Array Value} (hz:(Kr P t).isSome=true) (e:ps.map (·.1)=ps'.map (·.1)) (hp:∀(i:Nat) (p p':Nat×Value),ps[i]? =some p->ps'[i]? =some p'->VR r p.2 p'.2) (h:P.built t ps=some out):
  ∃out',P.built t ps'=some out'/\AR r out out':=by
 obtain⟨z,hz⟩:=Option.isSome_iff_exists.1 hz
 obtain⟨it,hi,hzz,hpz⟩:=Ed hz
 have hc:AR r z.cells z.cells:=by have:=(VR.pln (r:=r) hpz).cells;exact⟨rfl,fun i a a' h1 h2=>this.2 i a a' (by simpa using h1) (by simpa using h2)⟩
 unfold Program.built at h⊢
 cases hu:P.underlying t with
 |none=>simp[hi,hu] at h
 |some d=>
  cases d<;>try (simp[hi,hu] at h;done)
  ·simp only[hi,hu,hzz] at h⊢
   cases hie:P.info? ‹TypeId›with
   |none=>simp[hie] at h
   |some ie=>simp only[hie] at h⊢;exact Qt _ ps ps' _ _ out e hp hc h
  ·simp only[hi,hu,hzz] at h⊢
   rename_i fs
   cases hm:fs.toList.mapM (fun f=>(P.info? f.type).map fun i=>(f.offset,i.size)) with
   |none=>simp[hm] at h
   |some places=>simp only[hm] at h⊢;exact Qt _ ps ps' _ _ out e hp hc h
theorem equal_run {P:Program} {t:TypeId} {x y:Value} {b:Bool} {w:World} (h:(Op.equalIn (9999+1) t x y).run P w= .ok b w):(Op.equal t x y).run P w= .ok b w:=h
theorem Yv {P:Program} {r:Rn} {t:TypeId} {x y x' y':Value} (h:nilB P t x y=true) (hx:VR r x x') (hy:VR r y y') (w:World):(Op.equal t x' y').run P w= .ok false w/\(∀op:BinOp,∀a b:Operand,(eqGuard op t a b x' y').run P w= .ok () w)/\
  binOp .eql t x' y'=(do pure (.bool (<-Op.equal t x' y')))/\binOp .neq t x' y'=(do pure (.bool (!(<-Op.equal t x' y')))):=by
 have eg:∀(op:BinOp) (a b:Operand) (u v:Value),(∀c,u≠ .agg c)->u≠ .nilIface->(eqGuard op t a b u v).run P w= .ok () w:=fun op a b u v h1 h2=>by
  unfold eqGuard
  cases op<;>cases u<;>first|rfl|exact absurd rfl (h1 _)|exact absurd rfl h2
 unfold nilB at h
 split at h<;>first|(cases h;done)|skip
 all_goals
  rename_i hu
  cases hx<;>cases hy<;>(try (rename_i hq;simp[pl] at hq;done))<;>refine⟨equal_run ?_,fun op a b=>eg op a b _ _ (by intro c h;cases h) (by intro h;cases h),rfl,rfl⟩<;>rw[Op.equalIn]<;>simp[run_underlying hu]
theorem VR.tup {r:Rn} {c:Array Value} {v':Value} (h:VR r (.tuple c) v'):∃c',v'= .tuple c'/\AR r c c':=by
 cases h with
 |pln h=>obtain⟨c⟩:=c;exact⟨⟨c⟩,rfl,(LR.plain (by simpa [pl] using h)).arr⟩
 |tu h3 h4=>exact⟨_,rfl,h3,h4⟩
theorem VR.agg {r:Rn} {c:Array Value} {v':Value} (h:VR r (.agg c) v'):∃c',v'= .agg c'/\AR r c c':=by
 cases h with
 |pln h=>obtain⟨c⟩:=c;exact⟨⟨c⟩,rfl,(LR.plain (by simpa [pl] using h)).arr⟩
 |ag h3 h4=>exact⟨_,rfl,h3,h4⟩
theorem VR.pt {r:Rn} {k off:Nat} {v':Value} (h:VR r (.pointer (some ⟨k,off,none⟩)) v'):∃b x,r k=some (b,x)/\v'= .pointer (some ⟨b,off,none⟩):=by
 cases h with
 |pln h=>simp[pl] at h
 |ptr h=>exact⟨_,_,h,rfl⟩
theorem VR.ptr' {r:Rn} {a:Addr} {v':Value} (h:VR r (.pointer (some a)) v'):∃k off b x,a=⟨k,off,none⟩/\r k=some (b,x)/\v'= .pointer (some ⟨b,off,none⟩):=by
 cases h with
 |pln h=>simp[pl] at h
 |ptr h=>exact⟨_,_,_,_,rfl,h,rfl⟩
theorem VR.slc {r:Rn} {a:Addr} {n c:Nat} {v':Value} (h:VR r (.slice (some a) n c) v'):∃k off b x,r k=some (b,x)/\((a=⟨k,off,none⟩/\v'= .slice (some ⟨b,off,none⟩) n c)∨(a=⟨k,off,some 0⟩/\v'= .slice (some ⟨b,off,none⟩) n (c+x))):=by
 cases h with
 |pln h=>simp[pl] at h
 |sl h=>exact⟨_,_,_,_,h,.inl ⟨rfl,rfl⟩⟩
 |so h=>exact⟨_,_,_,_,h,.inr ⟨rfl,rfl⟩⟩
theorem ival_some {v:Value} {n:Nat} (h:ival v=some n):∃k,v= .int k (n:Int):=by
 unfold ival at h
 split at h
 ·split at h
  ·injection h with h;subst h;exact⟨_,rfl⟩
  ·cases h
 ·cases h
theorem VR.ival {r:Rn} {v v':Value} {n:Nat} (h:VR r v v') (hi:Go.Proofs.YtdeghcgakkhbmaaGreat.ival v=some n):∃k,v'= .int k (n:Int):=by
 obtain⟨k,rfl⟩:=ival_some hi
 exact⟨k,h.int⟩
theorem F8 (b off n:Nat):(⟨b,off,none⟩:Addr).add n=⟨b,off+n,none⟩:=by unfold Addr.add;split<;>simp_all
theorem Cp {P:Program} (k:IntKind) (n y:Nat) (c:BoundsCode) (h:n<=y) (w:World):(Instr.sliceBound (.int k (n:Int)) y c).run P w= .ok n w:=by
 have h1:(n:Int)<=(y:Int):=by omega
 simp[Instr.sliceBound,asIntOf,h1]
theorem J0 {v:Value} {d n:Nat} (h:bnd (some v) d=some n):ival v=some n:=h
section
variable {P:Program} {r:Rn} {ρ ρ':Operand->Value} {o:Oper} {v:Value}
theorem slB_ok {t e:TypeId} {sz len cap:Nat} {a:Option Addr} {x':Value} {lo hi mx lo' hi' mx':Option Value} (hu:P.underlying t=some (.slice e)) (hsz:szB P e=some sz) (hx:VR r (.slice a len cap) x')
  (hlo:(lo=none/\lo'=none)∨∃u u',lo=some u/\lo'=some u'/\VR r u u') (hhi:(hi=none/\hi'=none)∨∃u u',hi=some u/\hi'=some u'/\VR r u u') (hmx:(mx=none/\mx'=none)∨∃u u',mx=some u/\mx'=some u'/\VR r u u')
  (h:slB sz a len cap lo hi mx=some v):∃v',VR r v v'/\∀w,(Instr.sliceAt t x' lo' hi' mx').run P w= .ok v' w:=by
 unfold slB at h
 split at h
 case h_2=>cases h
 rename_i m hh l e1 e2 e3
 cases hc:(Nat.ble m cap&&Nat.ble hh m&&Nat.ble l hh&&(mx.isNone||hi.isSome)) with
 |false=>rw[hc] at h;cases h
 |true=>
  rw[hc] at h
  simp only[cond_true] at h
  simp only[Bool.and_eq_true,Nat.ble_eq] at hc
  obtain⟨⟨⟨c1,c2⟩,c3⟩,c4⟩:=hc
  --the bounds
  have key:∀(b':Option Addr) (cap' m':Nat),(mx=none->m'=cap')->(mx≠none->m'=m)->m<=m'->m<=cap'->
    ∀w,(Instr.sliceAt t (.slice b' len cap') lo' hi' mx').run P w= .ok (.slice (if m'=l then b' else b'.map (·.add (l*sz))) (hh-l) (m'-l)) w:=by
   intro b' cap' m' g1 g2 g3 g4 w
   have hb:(Instr.sliceBounds true len cap' lo' hi' mx').run P w= .ok (l,hh,m') w:=by
    rcases hmx with⟨rfl,rfl⟩|⟨um,um',rfl,rfl,vm⟩
    ·have:=g1 rfl;subst this
     rcases hhi with⟨rfl,rfl⟩|⟨uh,uh',rfl,rfl,vh⟩
     ·simp only[bnd,Option.some.injEq] at e2;subst e2
      rcases hlo with⟨rfl,rfl⟩|⟨ul,ul',rfl,rfl,vl⟩
      ·simp only[bnd,Option.some.injEq] at e3;subst e3
       simp[Instr.sliceBounds]
      ·obtain⟨k,rfl⟩:=vl.ival (J0 e3)
       simp[Instr.sliceBounds,Cp k l len _ c3]
     ·obtain⟨kh,rfl⟩:=vh.ival (J0 e2)
      rcases hlo with⟨rfl,rfl⟩|⟨ul,ul',rfl,rfl,vl⟩
      ·simp only[bnd,Option.some.injEq] at e3;subst e3
       simp[Instr.sliceBounds,Cp kh hh m' _ (by omega)]
      ·obtain⟨k,rfl⟩:=vl.ival (J0 e3)
       simp[Instr.sliceBounds,Cp k l hh _ c3,Cp kh hh m' _ (by omega)]
    ·have:=g2 (by simp);subst this
     obtain⟨km,rfl⟩:=vm.ival (J0 e1)
     rcases hhi with⟨rfl,rfl⟩|⟨uh,uh',rfl,rfl,vh⟩
     ·simp at c4
     ·obtain⟨kh,rfl⟩:=vh.ival (J0 e2)
      rcases hlo with⟨rfl,rfl⟩|⟨ul,ul',rfl,rfl,vl⟩
      ·simp only[bnd,Option.some.injEq] at e3;subst e3
       simp[Instr.sliceBounds,Cp kh hh m' _ (by omega),Cp km m' cap' _ g4]
      ·obtain⟨k,rfl⟩:=vl.ival (J0 e3)
       simp[Instr.sliceBounds,Cp k l hh _ c3,Cp kh hh m' _ (by omega),Cp km m' cap' _ g4]
   simp[Instr.sliceAt,Instr.slice,run_underlying hu,hb,Dz hsz]
  cases a with
  |none=>
   injection h with h;subst h
   rw[hx.same rfl]
   have hm:mx=none->m=cap:=fun e=>by subst e;simpa [bnd] using e1.symm
   refine⟨.slice none (hh-l) (m-l),.pln rfl,fun w=> ?_⟩
   rw[key none cap m (fun e=>hm e) (fun _=>rfl) (Nat.le_refl _) c1 w]
   simp
  |some a=>
   obtain⟨k,off,b,x,hr,hx⟩:=hx.slc
   rcases hx with⟨rfl,rfl⟩|⟨rfl,rfl⟩
   ·have hm:mx=none->m=cap:=fun e=>by subst e;simpa [bnd] using e1.symm
    have h':v= .slice (some ⟨k,if m=l then off else off+l*sz,none⟩) (hh-l) (m-l):=by
     simp only at h
     injection h with h;subst h;rw[bq];split<;>rfl
    subst h'
    refine⟨.slice (some ⟨b,if m=l then off else off+l*sz,none⟩) (hh-l) (m-l),.sl hr,fun w=> ?_⟩
    rw[key (some ⟨b,off,none⟩) cap m (fun e=>hm e) (fun _=>rfl) (Nat.le_refl _) c1 w]
    split<;>simp[F8]
   ·rcases hmx with⟨hm1,hm2⟩|⟨um,um',hm1,hm2,vm⟩
    ·have hm:m=cap:=by subst hm1;simpa [bnd] using e1.symm
     subst hm
     rw[hm1] at h
     simp only at h
     rw[bq] at h
     split at h
     ·cases h
     ·rename_i hne
      injection h with h;subst h
      refine⟨.slice (some ⟨b,off+l*sz,none⟩) (hh-l) (m-l+x),.so hr,fun w=> ?_⟩
      rw[key (some ⟨b,off,none⟩) (m+x) (m+x) (fun _=>rfl) (fun e=>absurd hm1 e) (by omega) (by omega) w,if_neg (by omega)]
      simp only[Option.map_some,F8]
      congr 2
      omega
    ·have h':v= .slice (some ⟨k,if m=l then off else off+l*sz,none⟩) (hh-l) (m-l):=by
      rw[hm1] at h
      simp only at h
      injection h with h;subst h;rw[bq];split<;>rfl
     subst h'
     refine⟨.slice (some ⟨b,if m=l then off else off+l*sz,none⟩) (hh-l) (m-l),.sl hr,fun w=> ?_⟩
     rw[key (some ⟨b,off,none⟩) (cap+x) m (fun e=>by rw[hm1] at e;cases e) (fun _=>rfl) (Nat.le_refl _) (by omega) w]
     split<;>simp[F8]
theorem mapR (l:List Operand) (h:∀x∈l,VR r (ρ x) (ρ' x)):LR r (l.map ρ) (l.map ρ'):=LR.map ρ ρ' l h
theorem arrR {c:Array Operand} (h:∀x∈c,VR r (ρ x) (ρ' x)):AR r (c.map ρ) (c.map ρ'):=by
 have:=(mapR (r:=r) (ρ:=ρ) (ρ':=ρ') c.toList (fun x hx=>h x (by simpa using hx))).arr
 have e:∀f:Operand->Value,(c.toList.map f).toArray=c.map f:=fun f=>by apply Array.ext';simp
 rwa [e,e] at this
theorem optR {x:Option Operand} (h:∀y,x=some y->VR r (ρ y) (ρ' y)):(x.map ρ=none/\x.map ρ'=none)∨∃u u',x.map ρ=some u/\x.map ρ'=some u'/\VR r u u':=by
 cases x with
 |none=>exact .inl ⟨rfl,rfl⟩
 |some y=>exact .inr ⟨_,_,rfl,rfl,h y rfl⟩
theorem Zi (h:Zj P ρ o=some v) (hρ:∀x∈o.op.operands,VR r (ρ x) (ρ' x)):∃v',VR r v v'/\∀w,(execOp ρ' o).run P w= .ok (.value v') w:=by
 unfold Zj at h
 split at h
 ·rename_i x hop
  injection h with h;subst h
  exact⟨ρ' x,hρ x (by simp[hop,Op.operands]),fun w=>by simp[execOp,hop]⟩
 ·rename_i x hop
  injection h with h;subst h
  exact⟨ρ' x,hρ x (by simp[hop,Op.operands]),fun w=>by simp[execOp,hop]⟩
 ·rename_i c a b hop
  split at h
  ·rename_i t hc
   injection h with h;subst h
   have hc':ρ' c= .bool t:=by have:=hρ c (by simp[hop,Op.operands]);rw[hc] at this;exact this.bool
   cases t with
   |true=>exact⟨ρ' a,hρ a (by simp[hop,Op.operands]),fun w=>by simp[execOp,hop,hc',asBool]⟩
   |false=>exact⟨ρ' b,hρ b (by simp[hop,Op.operands]),fun w=>by simp[execOp,hop,hc',asBool]⟩
  ·cases h
 ·rename_i x i hop
  split at h
  ·rename_i vs hx
   have hx':=hρ x (by simp[hop,Op.operands])
   rw[hx] at hx'
   obtain⟨c',e,ha⟩:=hx'.tup
   obtain⟨v',h1,h2⟩:=ha.get h
   exact⟨v',h2,fun w=>by simp[execOp,hop,e,Instr.extract,h1]⟩
  ·cases h
 ·rename_i t x f hop
  split at h
  ·rename_i fs cs hu hx
   split at h
   ·rename_i fd hfd
    have hx':=hρ x (by simp[hop,Op.operands])
    rw[hx] at hx'
    obtain⟨c',e,ha⟩:=hx'.agg
    obtain⟨v',h1,h2⟩:=Un h ha
    exact⟨v',h1,fun w=>by simp[execOp,hop,e,Instr.field,run_underlying hu,hfd,asAgg,h2]⟩
   ·cases h
  ·cases h
 ·rename_i t x i hop
  cases hc:(pl (ρ x)&&pl (ρ i)) with
  |true=>
   rw[hc] at h
   simp only[Bool.and_eq_true] at hc
   exact Jr h (by intro cs b e;rw[hop] at e;cases e) hρ (by intro y hy;simp[hop,Op.operands] at hy;rcases hy with rfl|rfl<;>first|exact hc.1|exact hc.2)
  |false=>
   rw[hc] at h
   simp only[cond_false] at h
   split at h
   ·rename_i n e cs k hu hx hk
    split at h
    ·rename_i sz hsz
     have hx':=hρ x (by simp[hop,Op.operands])
     rw[hx] at hx'
     obtain⟨c',e',ha⟩:=hx'.agg
     obtain⟨ki,hi⟩:=(hρ i (by simp[hop,Op.operands])).ival hk
     cases hlt:Nat.blt k n with
     |false=>rw[hlt] at h;cases h
     |true=>
      rw[hlt] at h
      have hlt':k<n:=by simp[Nat.blt] at hlt;omega
      obtain⟨v',h1,h2⟩:=Un h ha
      exact⟨v',h1,fun w=>by simp[execOp,hop,e',hi,Instr.index,asIntOf,run_underlying hu,hlt',Dz hsz,h2]⟩
    ·cases h
   ·cases h
 ·rename_i t parts hop
  cases hz:(Kr P t).isSome with
  |false=>rw[hz] at h;cases h
  |true=>
   rw[hz] at h
   simp only[cond_true,Option.map_eq_some_iff] at h
   obtain⟨out,h,rfl⟩:=h
   have hp:∀p∈parts.toList,VR r (ρ p.2) (ρ' p.2):=fun p hp=>hρ p.2 (by simp only[hop,Op.operands,List.mem_toArray,List.mem_map];exact⟨p,hp,rfl⟩)
   obtain⟨out',h1,h2⟩:=built_ok (r:=r) (ps':=parts.toList.map fun p=>(p.1,ρ' p.2)) hz (by simp) (fun i p p' e1 e2=>by
    simp only[List.getElem?_map,Option.map_eq_some_iff] at e1 e2
    obtain⟨q,hq,rfl⟩:=e1
    obtain⟨q',hq',rfl⟩:=e2
    rw[hq] at hq';injection hq' with hq';subst hq'
    exact hp q (List.mem_of_getElem? hq)) h
   refine⟨.agg out',.ag h2.1 h2.2,fun w=> ?_⟩
   have:=run_build (P:=P) w t (parts.map fun p=>(p.1,ρ' p.2)) out' (by simpa using h1)
   simp[execOp,hop,this]
 ·rename_i g first cap hop
  injection h with h;subst h
  obtain⟨a1,a2⟩:=arrR (r:=r) (ρ:=ρ) (ρ':=ρ') (c:=first) (fun x hx=>hρ x (by simp[hop,Op.operands,hx]))
  obtain⟨a3,a4⟩:=arrR (r:=r) (ρ:=ρ) (ρ':=ρ') (c:=cap) (fun x hx=>hρ x (by simp[hop,Op.operands,hx]))
  exact⟨.func (.func g) (first.map ρ') (cap.map ρ'),.fn a1 a2 a3 a4,fun w=>by simp[execOp,hop,Instr.makeFunc]⟩
 ·rename_i x hop
  have hx:=hρ x (by simp[hop,Op.operands])
  split at h
  ·rename_i a e
   injection h with h;subst h
   rw[e] at hx
   obtain⟨k,off,b,y,rfl,hr,e'⟩:=hx.ptr'
   exact⟨_,.ptr hr,fun w=>by simp[execOp,hop,e']⟩
  ·rename_i g a b e
   injection h with h;subst h
   rw[e] at hx
   refine⟨ρ' x,hx,fun w=> ?_⟩
   generalize hu:ρ' x=u at hx
   cases hx with
   |pln h=>simp[execOp,hop,hu]
   |fn h1 h2 h3 h4=>simp[execOp,hop,hu]
  ·rename_i g a b e
   injection h with h;subst h
   rw[e] at hx
   refine⟨ρ' x,hx,fun w=> ?_⟩
   generalize hu:ρ' x=u at hx
   cases hx with
   |pln h=>simp[pl] at h
   |yl h=>simp[execOp,hop,hu]
  ·cases h
 ·rename_i op t x y yt hop
  have hx:=hρ x (by simp[hop,Op.operands])
  have hy:=hρ y (by simp[hop,Op.operands])
  cases hn:eqNil P t op (ρ x) (ρ y) with
  |some u=>
   rw[hn] at h
   injection h with h;subst h
   unfold eqNil at hn
   cases hb:nilB P t (ρ x) (ρ y) with
   |false=>rw[hb] at hn;cases hn
   |true=>
    rw[hb] at hn
    simp only[cond_true] at hn
    split at hn
    ·injection hn with hn;subst hn
     refine⟨.bool false,.pln rfl,fun w=> ?_⟩
     obtain⟨n1,n2,n3,n4⟩:=Yv hb hx hy w
     simp[execOp,hop,n2,n3,n1]
    ·injection hn with hn;subst hn
     refine⟨.bool true,.pln rfl,fun w=> ?_⟩
     obtain⟨n1,n2,n3,n4⟩:=Yv hb hx hy w
     simp[execOp,hop,n2,n4,n1]
    ·cases hn
  |none=>
   rw[hn] at h
   simp only at h
   cases hc:(pl (ρ x)&&pl (ρ y)) with
   |false=>rw[hc] at h;cases h
   |true=>
    rw[hc] at h
    simp only[Bool.and_eq_true] at hc
    exact Jr h (by intro cs b e;rw[hop] at e;cases e) hρ (by intro z hz;simp[hop,Op.operands] at hz;rcases hz with rfl|rfl<;>first|exact hc.1|exact hc.2)
 ·rename_i op t x hop
  cases hc:pl (ρ x) with
  |false=>rw[hc] at h;cases h
  |true=>
   rw[hc] at h
   exact Jr h (by intro cs b e;rw[hop] at e;cases e) hρ (by intro z hz;simp[hop,Op.operands] at hz;subst hz;exact hc)
 ·rename_i s d x hop
  cases hc:pl (ρ x) with
  |false=>rw[hc] at h;cases h
  |true=>
   rw[hc] at h
   exact Jr h (by intro cs b e;rw[hop] at e;cases e) hρ (by intro z hz;simp[hop,Op.operands] at hz;subst hz;exact hc)
 ·rename_i s x f hop
  have hx:=hρ x (by simp[hop,Op.operands])
  split at h
  ·rename_i k off fs e hu
   split at h
   ·rename_i fd hfd
    split at h
    ·rename_i n hsz
     injection h with h;subst h
     rw[e] at hx
     obtain⟨b,y,hr,e'⟩:=hx.pt
     exact⟨_,.ptr hr,fun w=>by simp[execOp,hop,e',Instr.fieldAt,run_underlying hu,hfd,Instr.sureAddr,fieldPlace,Dz hsz,F8]⟩
    ·cases h
   ·cases h
  ·cases h
 ·rename_i t x i hop
  have hx:=hρ x (by simp[hop,Op.operands])
  have hi:=hρ i (by simp[hop,Op.operands])
  split at h
  ·rename_i len e k off n hu hx0 hk
   split at h
   ·rename_i sz hsz
    cases hlt:Nat.blt n len with
    |false=>rw[hlt] at h;cases h
    |true=>
     rw[hlt] at h
     injection h with h;subst h
     have hlt':n<len:=by simp[Nat.blt] at hlt;omega
     rw[hx0] at hx
     obtain⟨b,y,hr,e'⟩:=hx.pt
     obtain⟨ki,hi⟩:=hi.ival hk
     exact⟨_,.ptr hr,fun w=>by simp[execOp,hop,e',hi,Instr.indexAt,asIntOf,run_underlying hu,Instr.sureAddr,hlt',Dz hsz,F8]⟩
   ·cases h
  ·rename_i e k off sp len cap n hu hx0 hk
   split at h
   ·rename_i sz hsz
    cases hlt:Nat.blt n len with
    |false=>rw[hlt] at h;cases h
    |true=>
     rw[hlt] at h
     injection h with h;subst h
     have hlt':n<len:=by simp[Nat.blt] at hlt;omega
     rw[hx0] at hx
     obtain⟨k',off',b,y,hr,hx⟩:=hx.slc
     obtain⟨ki,hi⟩:=hi.ival hk
     rcases hx with⟨e1,e'⟩|⟨e1,e'⟩<;>injection e1 with e1 e2 e3<;>subst e1<;>subst e2<;>
      exact⟨_,.ptr hr,fun w=>by simp[execOp,hop,e',hi,Instr.indexAt,asIntOf,run_underlying hu,hlt',Dz hsz,F8]⟩
   ·cases h
  ·cases h
 ·rename_i t x lo hi mx hop
  have hx:=hρ x (by simp[hop,Op.operands])
  split at h
  ·rename_i e a len cap hu e0
   split at h
   ·rename_i sz hsz
    rw[e0] at hx
    obtain⟨v',h1,h2⟩:=slB_ok hu hsz hx (optR fun y hy=>hρ y (by simp[hop,Op.operands,hy])) (optR fun y hy=>hρ y (by simp[hop,Op.operands,hy])) (optR fun y hy=>hρ y (by simp[hop,Op.operands,hy])) h
    exact⟨v',h1,fun w=>by simp[execOp,hop,h2]⟩
   ·cases h
  ·cases hc:(pl (ρ x)&&((lo.toList++hi.toList++mx.toList).all fun y=>pl (ρ y))) with
   |false=>rw[hc] at h;cases h
   |true=>
    rw[hc] at h
    simp only[Bool.and_eq_true,List.all_eq_true] at hc
    exact Jr h (by intro cs b e;rw[hop] at e;cases e) hρ (by
     intro z hz
     simp only[hop,Op.operands,Array.mem_append,List.mem_toArray,List.mem_singleton,Option.mem_toArray] at hz
     rcases hz with((rfl|hz)|hz)|hz
     ·exact hc.1
     ·exact hc.2 z (by simp[hz])
     ·exact hc.2 z (by simp[hz])
     ·exact hc.2 z (by simp[hz]))
  ·cases h
 ·cases h
end
structure Fv (w w':World) (o:Obj):Prop where
 size:w'.heap.size=w.heap.size+1
 last:w'.heap[w.heap.size]? =some o
 rest:∀b,b<w.heap.size->w'.heap[b]? =w.heap[b]?
 os:w'.os=w.os
 tape:w'.tape=w.tape
 output:w'.output=w.output
structure Qg (w w':World) (b:Nat) (o:Obj):Prop where
 size:w'.heap.size=w.heap.size
 at_:w'.heap[b]? =some o
 rest:∀k,k≠b->w'.heap[k]? =w.heap[k]?
 os:w'.os=w.os
 tape:w'.tape=w.tape
 output:w'.output=w.output
theorem Fv.alloc (w:World) (o:Obj):Fv w (w.alloc o) o:=⟨by show (w.heap.push o).size=_;simp,by show (w.heap.push o)[w.heap.size]? =_;simp,fun b hb=>by show (w.heap.push o)[b]? =_;simp[Array.getElem?_push,Nat.ne_of_lt hb],rfl,rfl,rfl⟩
theorem Fv.drew (w:World) (o:Obj):Fv w (w.drew.alloc o) o:=⟨(Fv.alloc w.drew o).size,(Fv.alloc w.drew o).last,(Fv.alloc w.drew o).rest,rfl,rfl,rfl⟩
theorem Qg.row {w:World} {b:Nat} {old cs:Array Value} {t:TypeId} (h:w.heap[b]? =some (.cells old t (0,0))):Qg w (w.setRow b cs) b (.cells cs t (0,0)):=
 ⟨by simp,setRow_heap w b old cs t (0,0) h,fun k hk=>setRow_other w b k cs hk,rfl,rfl,rfl⟩
theorem Qg.obj {w:World} {b:Nat} (o:Obj) (h:b<w.heap.size):Qg w {w with heap:=w.heap.setIfInBounds b o} b o:=
 ⟨by simp,by simp[h],fun k hk=>by simp[Array.getElem?_setIfInBounds,Ne.symm hk],rfl,rfl,rfl⟩
def upd (r:Rn) (k:Nat) (p:Nat×Nat):Rn:=fun i=>if i=k then some p else r i
theorem Cg (r:Rn) (k:Nat) (p:Nat×Nat):upd r k p k=some p:=if_pos rfl
theorem Dk {r:Rn} {k i:Nat} {p:Nat×Nat} (h:i≠k):upd r k p i=r i:=if_neg h
theorem D4 {s s':St} {o:AO} {k:Nat} (h:s.new o=some (k,s')):s.next<big/\k=s.next/\s'= {s with T:=s.T.set 24 s.next (some o),next:=s.next+1}:=by
 unfold St.new at h
 cases hb:Nat.blt s.next big with
 |false=>rw[hb] at h;cases h
 |true=>
  rw[hb] at h
  injection h with h
  injection h with h1 h2
  exact⟨by simpa [Nat.blt,Nat.lt_iff_add_one_le] using hb,h1.symm,h2.symm⟩
theorem Jq {s s':St} {k:Nat} {o:Option AO} (h:s.put k o=some s'):wrt s k/\k<s.next/\s'= {s with T:=s.T.set 24 k o}:=by
 unfold St.put at h
 cases hb:((Nat.ble s.lim k||Nat.beq k s.one)&&Nat.blt k s.next) with
 |false=>rw[hb] at h;cases h
 |true=>
  rw[hb] at h
  injection h with h
  simp only[Bool.and_eq_true,Bool.or_eq_true,Nat.ble_eq] at hb
  refine⟨?_,by have:=hb.2;simp[Nat.blt] at this;omega,h.symm⟩
  rcases hb.1 with h1|h1
  ·exact .inl h1
  ·exact .inr (Nat.eq_of_beq_eq_true h1)
theorem Jm (s:St) (k:Nat):s.get k=if A4 s.hid k=true then none else s.T.get k:=by unfold St.get;cases A4 s.hid k<;>rfl
section
variable {P:Program} {B:Nat} {r:Rn} {s s':St} {w w':World}
theorem _root_.Go.Proofs.YtdeghcgakkhbmaaGreat.Rel.fresh (h:Rel P B r s w) {o:AO} {k:Nat} (hn:s.new o=some (k,s')) (hB:s'.next<=B):r k=none:=by
 obtain⟨_,rfl,rfl⟩:=D4 hn
 exact h.dom s.next (Nat.le_refl _) hB
theorem G6 (h:Rel P B r s w) (hB:s'.next<=B) {o:AO} {k:Nat} (hn:s.new o=some (k,s')) {o':Obj} (hp:Fv w w' o') {x:Nat} (ho:OR P (upd r k (w.heap.size,x)) x o o'):Dl P B s s' r (upd r k (w.heap.size,x)) w w':=by
 obtain⟨h1,rfl,rfl⟩:=D4 hn
 have hB:s.next+1<=B:=hB
 have hk:s.next+2<=2^24:=by unfold big at h1;omega
 have hfr:r s.next=none:=h.dom s.next (Nat.le_refl _) (by omega)
 have hT:∀i,(s.T.set 24 s.next (some o)).get i=if i=s.next then some o else s.T.get i:=fun i=>Tr.get_set 24 s.T s.next (some o) i hk
 have hnh:A4 s.hid s.next=false:=by
  cases e:A4 s.hid s.next with
  |false=>rfl
  |true=>exact absurd (h.hlt _ e) (by omega)
 have hup:∀i p,r i=some p->upd r s.next (w.heap.size,x) i=some p:=fun i p hi=>by rw[Dk (by rintro rfl;rw[hfr] at hi;cases hi)];exact hi
 have hg:∀i,({s with T:=s.T.set 24 s.next (some o),next:=s.next+1}:St).get i=if i=s.next then some o else s.get i:=fun i=>by
  rw[Jm,Jm]
  show (if A4 s.hid i=true then none else (s.T.set 24 s.next (some o)).get i)=_
  rw[hT]
  by_cases e:i=s.next
  ·subst e;rw[if_pos rfl,if_pos rfl,hnh];rfl
  ·rw[if_neg e,if_neg e]
 have hold:∀i b y,s.get i≠none->r i=some (b,y)->b<w.heap.size:=fun i b y hi hr=>by
  cases e:s.get i with
  |none=>exact absurd e hi
  |some oo=>
   obtain⟨b',y',o2,a1,a2,_⟩:=h.obj i oo e
   rw[hr] at a1;injection a1 with a1;injection a1 with a1 _;subst a1
   exact(Array.getElem?_eq_some_iff.1 a2).1
 refine⟨⟨Nat.le_succ _,rfl,rfl,rfl,fun i hi _=> ?_,fun i hi hd=> ?_,fun _ i hi=> ?_,rfl⟩,⟨fun i hi=>Dk (by rcases hi with hi|hi;omega;have hi:s.next+1<=i:=hi;omega),by rw[hp.size];omega,hp.os,hp.tape,hp.output,fun b hb _=>hp.rest b hb,fun i b y hi hgi hr=> ?_⟩,⟨h1,hB,fun i hi hiB=> ?_,fun i oo hi=> ?_,fun i j b y y' hi hj ri rj=> ?_,fun i hi=> ?_,fun i hi=> ?_,fun g hg=>hup _ _ (h.gl g hg),Nat.le_succ_of_le h.gn⟩⟩
 ·show (s.T.set 24 s.next (some o)).get i=_
  rw[hT,if_neg (by omega)]
 ·show (s.T.set 24 s.next (some o)).get i=_
  rw[hT,if_neg (by omega)];exact hd
 ·have hi:s.next+1<=i:=hi
  show (s.T.set 24 s.next (some o)).get i=none
  rw[hT,if_neg (by omega)];exact h.up i (by omega)
 ·rw[hg] at hgi
  by_cases e:i=s.next
  ·subst e;rw[Cg] at hr;injection hr with hr;injection hr with hr _;left;omega
  ·rw[if_neg e] at hgi;exact absurd (h.lt hgi) (by omega)
 ·have hi:s.next+1<=i:=hi
  rw[Dk (by omega)];exact h.dom i (by omega) hiB
 ·rw[hg] at hi
  by_cases e:i=s.next
  ·subst e;rw[if_pos rfl] at hi;injection hi with hi;subst hi
   exact⟨_,_,_,Cg _ _ _,hp.last,ho⟩
  ·rw[if_neg e] at hi
   obtain⟨b,y,o2,a1,a2,a3⟩:=h.obj i oo hi
   exact⟨b,y,o2,hup _ _ a1,(hp.rest b (hold i b y (by rw[hi];simp) a1)).trans a2,a3.mono hup⟩
 ·rw[hg] at hi hj
  by_cases e:i=s.next
  ·subst e
   rw[Cg] at ri;injection ri with ri;injection ri with ri _;subst ri
   by_cases e':j=s.next
   ·exact e'.symm
   ·rw[if_neg e'] at hj;rw[Dk e'] at rj;exact absurd (hold j _ _ hj rj) (by omega)
  ·rw[if_neg e] at hi;rw[Dk e] at ri
   by_cases e':j=s.next
   ·subst e';rw[Cg] at rj;injection rj with rj;injection rj with rj _;subst rj
    exact absurd (hold i _ _ hi ri) (by omega)
   ·rw[if_neg e'] at hj;rw[Dk e'] at rj;exact h.inj i j b y y' hi hj ri rj
 ·show (s.T.set 24 s.next (some o)).get i=none
  rw[hT,if_neg (by have:s.next+1<=i:=hi;omega)]
  exact h.up i (by have:s.next+1<=i:=hi;omega)
 ·have:=h.hlt i hi;show i<s.next+1;omega
theorem Rf (h:Rel P B r s w) {k b x:Nat} {o1 o2:AO} (hn:s.put k (some o2)=some s') (hv:s.get k=some o1) (hr:r k=some (b,x)) {o':Obj} (hp:Qg w w' b o') (ho:OR P r x o2 o'):Dl P B s s' r r w w':=by
 obtain⟨h1,h2,rfl⟩:=Jq hn
 have hk:k+2<=2^24:=by have hb9:=h.nb;unfold big at hb9;omega
 have hT:∀i,(s.T.set 24 k (some o2)).get i=if i=k then some o2 else s.T.get i:=fun i=>Tr.get_set 24 s.T k (some o2) i hk
 have hnh:A4 s.hid k=false:=by
  cases e:A4 s.hid k with
  |false=>rfl
  |true=>rw[Jm,e] at hv;cases hv
 have hg:∀i,({s with T:=s.T.set 24 k (some o2)}:St).get i=if i=k then some o2 else s.get i:=fun i=>by
  rw[Jm,Jm]
  show (if A4 s.hid i=true then none else (s.T.set 24 k (some o2)).get i)=_
  rw[hT]
  by_cases e:i=k
  ·subst e;rw[if_pos rfl,if_pos rfl,hnh];rfl
  ·rw[if_neg e,if_neg e]
 have hne:s.get k≠none:=by rw[hv];simp
 refine⟨⟨Nat.le_refl _,rfl,rfl,rfl,fun i hi hw=> ?_,fun i hi hd=> ?_,fun _ i hi=> ?_,rfl⟩,⟨fun i hi=>rfl,by rw[hp.size];exact Nat.le_refl _,hp.os,hp.tape,hp.output,fun bb hb hno=>hp.rest bb ?_,fun i bb y hi hgi _=> ?_⟩,⟨h.nb,h.le,h.dom,fun i oo hi=> ?_,fun i j bb y y' hi hj ri rj=> ?_,fun i hi=> ?_,h.hlt,h.gl,h.gn⟩⟩
 ·show (s.T.set 24 k (some o2)).get i=_
  rw[hT,if_neg ?_]
  rintro rfl
  rcases hw with hw|hw
  ·exact hw h1
  ·rw[hnh] at hw;cases hw
 ·show (s.T.set 24 k (some o2)).get i=_
  rw[hT,if_neg ?_]
  ·exact hd
  ·rintro rfl
   rw[Jm,hnh,if_neg (by simp)] at hv
   rw[hd] at hv;cases hv
 ·have hi':s.next<=i:=hi
  show (s.T.set 24 k (some o2)).get i=none
  rw[hT,if_neg (by omega)];exact h.up i hi'
 ·rintro rfl;exact hno k x h2 h1 hne hr
 ·rw[hg] at hgi
  have hi':s.next<=i:=hi
  rw[if_neg (by omega)] at hgi
  exact absurd (h.lt hgi) (by omega)
 ·rw[hg] at hi
  by_cases e:i=k
  ·subst e;rw[if_pos rfl] at hi;injection hi with hi;subst hi
   exact⟨b,x,o',hr,hp.at_,ho⟩
  ·rw[if_neg e] at hi
   obtain⟨b',y,o3,a1,a2,a3⟩:=h.obj i oo hi
   refine⟨b',y,o3,a1,(hp.rest b' ?_).trans a2,a3⟩
   rintro rfl
   exact e (h.inj i k b' y x (by rw[hi];simp) hne a1 hr)
 ·rw[hg] at hi hj
  have f:∀i,(if i=k then some o2 else s.get i)≠none->s.get i≠none:=fun i hi=>by
   by_cases e:i=k
   ·subst e;exact hne
   ·rwa [if_neg e] at hi
  exact h.inj i j bb y y' (f i hi) (f j hj) ri rj
 ·show (s.T.set 24 k (some o2)).get i=none
  have hi':s.next<=i:=hi
  rw[hT,if_neg (by omega)];exact h.up i hi'
theorem move_ok {s1:St} (h:Rel P B r s w) (hB:s'.next<=B) {k b x k2 x2:Nat} {o1 o2:AO} (hd:s.put k none=some s1) (hn:s1.new o2=some (k2,s')) (hv:s.get k=some o1) (hr:r k=some (b,x)) {o':Obj} (hp:Qg w w' b o') (ho:OR P (upd r k2 (b,x2)) x2 o2 o'):
  Dl P B s s' r (upd r k2 (b,x2)) w w':=by
 obtain⟨h1,h2,rfl⟩:=Jq hd
 obtain⟨h3,e3,es⟩:=D4 hn
 have e3:k2=s.next:=e3
 subst e3
 have sT:s'.T=(s.T.set 24 k none).set 24 s.next (some o2):=by rw[es]
 have sn:s'.next=s.next+1:=by rw[es]
 have sl:s'.lim=s.lim:=by rw[es]
 have so:s'.one=s.one:=by rw[es]
 have sh:s'.hid=s.hid:=by rw[es]
 have sng:s'.ng=s.ng:=by rw[es]
 clear es hn hd
 have hfr:r s.next=none:=h.dom s.next (Nat.le_refl _) (by omega)
 have hk:k+2<=2^24:=by have hb9:=h.nb;unfold big at hb9;omega
 have hk2:s.next+2<=2^24:=by have hb9:=h.nb;unfold big at hb9;omega
 have hT:∀i,((s.T.set 24 k none).set 24 s.next (some o2)).get i=if i=s.next then some o2 else if i=k then none else s.T.get i:=fun i=>by
  rw[Tr.get_set 24 _ s.next (some o2) i hk2,Tr.get_set 24 s.T k none i hk]
 have hnh:A4 s.hid k=false:=by
  cases e:A4 s.hid k with
  |false=>rfl
  |true=>rw[Jm,e] at hv;cases hv
 have hnh2:A4 s.hid s.next=false:=by
  cases e:A4 s.hid s.next with
  |false=>rfl
  |true=>exact absurd (h.hlt _ e) (by omega)
 have hup:∀i p,r i=some p->upd r s.next (b,x2) i=some p:=fun i p hi=>by rw[Dk (by rintro rfl;rw[hfr] at hi;cases hi)];exact hi
 have hg:∀i,s'.get i=if i=s.next then some o2 else if i=k then none else s.get i:=fun i=>by
  rw[Jm,Jm,sh,sT,hT]
  by_cases e:i=s.next
  ·subst e;rw[if_pos rfl,if_pos rfl,hnh2];rfl
  ·rw[if_neg e,if_neg e]
   by_cases e':i=k
   ·subst e';rw[if_pos rfl,if_pos rfl];split<;>rfl
   ·rw[if_neg e',if_neg e']
 have hne:s.get k≠none:=by rw[hv];simp
 refine⟨⟨by omega,sl,so,sh,fun i hi hw=> ?_,fun i hi hdd=> ?_,fun _ i hi=> ?_,sng⟩,⟨fun i hi=>Dk (by omega),by rw[hp.size];exact Nat.le_refl _,hp.os,hp.tape,hp.output,fun bb hb hno=>hp.rest bb ?_,fun i bb y hi hgi hri=> ?_⟩,⟨by rw[sn];exact h3,hB,fun i hi hiB=> ?_,fun i oo hi=> ?_,fun i j bb y y' hi hj ri rj=> ?_,fun i hi=> ?_,fun i hi=> ?_,fun g hg=>hup _ _ (h.gl g (sng▸hg)),sng▸sn▸Nat.le_succ_of_le h.gn⟩⟩
 ·rw[sT,hT,if_neg (by omega),if_neg ?_]
  rintro rfl
  rcases hw with hw|hw
  ·exact hw h1
  ·rw[hnh] at hw;cases hw
 ·rw[sT,hT,if_neg (by omega)]
  split
  ·rfl
  ·exact hdd
 ·rw[sT,hT,if_neg (by omega),if_neg (by omega)];exact h.up i (by omega)
 ·rintro rfl;exact hno k x h2 h1 hne hr
 ·rw[hg] at hgi
  by_cases e:i=s.next
  ·subst e;rw[Cg] at hri;injection hri with hri;injection hri with hri _;subst hri
   exact .inr ⟨k,x,h2,h1,hne,hr⟩
  ·rw[if_neg e] at hgi
   split at hgi
   ·exact absurd rfl hgi
   ·exact absurd (h.lt hgi) (by omega)
 ·rw[Dk (by omega)];exact h.dom i (by omega) hiB
 ·rw[hg] at hi
  by_cases e:i=s.next
  ·subst e;rw[if_pos rfl] at hi;injection hi with hi;subst hi
   exact⟨b,x2,o',Cg _ _ _,hp.at_,ho⟩
  ·rw[if_neg e] at hi
   by_cases e':i=k
   ·rw[if_pos e'] at hi;cases hi
   ·rw[if_neg e'] at hi
    obtain⟨b',y,o3,a1,a2,a3⟩:=h.obj i oo hi
    refine⟨b',y,o3,hup _ _ a1,(hp.rest b' ?_).trans a2,a3.mono hup⟩
    rintro rfl
    exact e' (h.inj i k b' y x (by rw[hi];simp) hne a1 hr)
 ·rw[hg] at hi hj
  by_cases e:i=s.next
  ·subst e
   rw[Cg] at ri;injection ri with ri;injection ri with ri _;subst ri
   by_cases e':j=s.next
   ·exact e'.symm
   ·rw[if_neg e'] at hj
    rw[Dk e'] at rj
    by_cases e2:j=k
    ·rw[if_pos e2] at hj;exact absurd rfl hj
    ·rw[if_neg e2] at hj;exact absurd (h.inj j k b y' x hj hne rj hr) e2
  ·rw[if_neg e] at hi;rw[Dk e] at ri
   have hi2:i≠k/\s.get i≠none:=by
    by_cases e2:i=k
    ·rw[if_pos e2] at hi;exact absurd rfl hi
    ·rw[if_neg e2] at hi;exact⟨e2,hi⟩
   by_cases e':j=s.next
   ·subst e';rw[Cg] at rj;injection rj with rj;injection rj with rj _;subst rj
    exact absurd (h.inj i k b y x hi2.2 hne ri hr) hi2.1
   ·rw[if_neg e'] at hj;rw[Dk e'] at rj
    have hj2:s.get j≠none:=by
     by_cases e2:j=k
     ·rw[if_pos e2] at hj;exact absurd rfl hj
     ·rw[if_neg e2] at hj;exact hj
    exact h.inj i j bb y y' hi2.2 hj2 ri rj
 ·rw[sT,hT,if_neg (by omega),if_neg (by omega)];exact h.up i (by omega)
 ·rw[sh] at hi;have:=h.hlt i hi;omega
theorem drop_ok (h:Rel P B r s w) {k b x:Nat} {o1:AO} (hd:s.put k none=some s') (hv:s.get k=some o1):Dl P B s s' r r w w:=by
 obtain⟨h1,h2,rfl⟩:=Jq hd
 have hk:k+2<=2^24:=by have hb9:=h.nb;unfold big at hb9;omega
 have hT:∀i,(s.T.set 24 k none).get i=if i=k then none else s.T.get i:=fun i=>Tr.get_set 24 s.T k none i hk
 have hnh:A4 s.hid k=false:=by
  cases e:A4 s.hid k with
  |false=>rfl
  |true=>rw[Jm,e] at hv;cases hv
 have hg:∀i,({s with T:=s.T.set 24 k none}:St).get i≠none->s.get i≠none/\({s with T:=s.T.set 24 k none}:St).get i=s.get i:=fun i=>by
  rw[Jm,Jm]
  show (if A4 s.hid i=true then none else (s.T.set 24 k none).get i)≠none->_/\(if A4 s.hid i=true then none else (s.T.set 24 k none).get i)=_
  rw[hT]
  intro hh
  split at hh
  ·exact absurd rfl hh
  ·rename_i e1
   rw[if_neg e1,if_neg e1]
   split at hh
   ·exact absurd rfl hh
   ·rename_i e2
    rw[if_neg e2];exact⟨hh,rfl⟩
 refine⟨⟨Nat.le_refl _,rfl,rfl,rfl,fun i hi hw=> ?_,fun i hi hdd=> ?_,fun _ i hi=> ?_,rfl⟩,⟨fun i hi=>rfl,Nat.le_refl _,rfl,rfl,rfl,fun _ _ _=>rfl,fun i bb y hi hgi _=> ?_⟩,⟨h.nb,h.le,h.dom,fun i oo hi=> ?_,fun i j bb y y' hi hj ri rj=> ?_,fun i hi=> ?_,h.hlt,h.gl,h.gn⟩⟩
 ·show (s.T.set 24 k none).get i=_
  rw[hT,if_neg ?_]
  rintro rfl
  rcases hw with hw|hw
  ·exact hw h1
  ·rw[hnh] at hw;cases hw
 ·show (s.T.set 24 k none).get i=_
  rw[hT];split
  ·rfl
  ·exact hdd
 ·have hi':s.next<=i:=hi
  show (s.T.set 24 k none).get i=none
  rw[hT];split
  ·rfl
  ·exact h.up i hi'
 ·exact absurd (h.lt (hg i hgi).1) (by have hi':s.next<=i:=hi;omega)
 ·rw[(hg i (by rw[hi];simp)).2] at hi
  exact h.obj i oo hi
 ·exact h.inj i j bb y y' (hg i hi).1 (hg j hj).1 ri rj
 ·show (s.T.set 24 k none).get i=none
  have hi':s.next<=i:=hi
  rw[hT];split
  ·rfl
  ·exact h.up i hi'
end
section
variable {P:Program} {B:Nat} {r:Rn} {s s':St} {w:World}
theorem Rd (h:Rel P B r s w) {k off n b x:Nat} {l:List Value} (hl:rd s k off n=some l) (hr:r k=some (b,x)):l.length=n/\∃l',LR r l l'/\(∀j v,l'[j]? =some v->w.cell? ((⟨b,off,none⟩:Addr).add j)=some v)/\∀v∈l',v.oneCell'=true:=by
 unfold rd at hl
 split at hl
 ·rename_i cs t op hg
  obtain⟨b',x',o',e1,e2,a,rfl,e3,e4⟩:=h.obj k _ hg
  rw[hr] at e1;injection e1 with e1;injection e1 with e1 e1';subst e1;subst e1'
  cases hb:Nat.ble (Nat.add off n) cs.length with
  |false=>rw[hb] at hl;cases hl
  |true=>
   rw[hb] at hl
   injection hl with hl
   rw[Nr,Og] at hl
   have hle:off+n<=cs.length:=by simpa using hb
   have hlen:l.length=n:=by rw[<-hl];simp;omega
   have hsz:cs.length<=a.size:=by rw[e3];omega
   have hget:∀j,j<n->∃v v',l[j]? =some v/\a[off+j]? =some v'/\VR r v v'/\v.oneCell'=true:=fun j hj=>by
    have hj':off+j<cs.length:=by omega
    have e5:cs[off+j]? =some cs[off+j]:=by simp[hj']
    obtain⟨v',a1,a2,a3⟩:=e4 _ _ e5
    refine⟨cs[off+j],v',?_,a1,a2,a3⟩
    rw[<-hl,List.getElem?_take,if_pos hj,List.getElem?_drop,e5]
   refine⟨hlen,(a.toList.drop off).take n,⟨by rw[hlen];simp;omega,fun i v v' h1 h2=> ?_⟩,fun j v hv=> ?_,fun v hv=> ?_⟩
   ·have hi:i<n:=by rw[<-hlen];exact(List.getElem?_eq_some_iff.1 h1).1
    obtain⟨u,u',g1,g2,g3,_⟩:=hget i hi
    rw[List.getElem?_take,if_pos hi,List.getElem?_drop] at h2
    rw[g1] at h1;injection h1 with h1;subst h1
    have:a[off+i]? =some v':=by simpa using h2
    rw[g2] at this;injection this with this;subst this
    exact g3
   ·rw[F8,cell_of_row w b (off+j) a t (0,0) e2]
    rw[List.getElem?_take] at hv
    split at hv
    ·rw[List.getElem?_drop] at hv;simpa using hv
    ·cases hv
   ·obtain⟨j,hj⟩:=List.mem_iff_getElem?.1 hv
    have hjn:j<n:=by
     rw[List.getElem?_take] at hj
     split at hj
     ·assumption
     ·cases hj
    obtain⟨u,u',g1,g2,g3,g4⟩:=hget j hjn
    rw[List.getElem?_take,if_pos hjn,List.getElem?_drop] at hj
    have:a[off+j]? =some v:=by simpa using hj
    rw[g2] at this;injection this with this;subst this
    rw[g3.one];exact g4
 ·cases hl
theorem Q8 {α:Type} (a vs:List α) (off i:Nat) (h:off+vs.length<=a.length):(a.take off++(vs++a.drop (off+vs.length)))[i]? =if i<off then a[i]? else if i<off+vs.length then vs[i-off]? else a[i]? :=by
 rw[List.getElem?_append]
 have h1:(a.take off).length=off:=by simp;omega
 rw[h1]
 split
 ·rename_i h2;rw[List.getElem?_take,if_pos h2]
 ·rw[List.getElem?_append]
  split
  ·rename_i h2 h3;rw[if_pos (by omega)]
  ·rename_i h2 h3
   rw[if_neg (by omega),List.getElem?_drop]
   congr 1;omega
theorem wr_ok (h:Rel P B r s w) {k off b x:Nat} {vs vs':List Value} (hl:wr s k off vs=some s') (hr:r k=some (b,x)) (hv:LR r vs vs'):
  ∃cur t,w.heap[b]? =some (.cells cur t (0,0))/\off+vs'.length<=cur.size/\(∀v∈vs',v.oneCell'=true)/\(∃cs op,s.get k=some (.cells cs t op)/\cs.length<=cur.size)/\Dl P B s s' r r w (w.setRow b (cur.toList.take off++vs'++cur.toList.drop (off+vs'.length)).toArray):=by
 unfold wr at hl
 split at hl
 ·rename_i cs t op hg
  obtain⟨b',x',o',e1,e2,a,rfl,e3,e4⟩:=h.obj k _ hg
  rw[hr] at e1;injection e1 with e1;injection e1 with e1 e1';subst e1;subst e1'
  cases hb:(Nat.ble (Nat.add off vs.length) cs.length&&Fa vs) with
  |false=>rw[hb] at hl;cases hl
  |true=>
   rw[hb] at hl
   simp only[cond_true] at hl
   simp only[Bool.and_eq_true] at hb
   have hle:off+vs.length<=cs.length:=by simpa using hb.1
   have hvl:=hv.1
   have hsz:cs.length<=a.size:=by rw[e3];omega
   have h1:=hv.oneAll hb.2
   refine⟨a,t,e2,by omega,h1,⟨cs,op,hg,hsz⟩,Rf h hl hg hr (Qg.row e2) ⟨_,rfl,?_,fun i v hiv=> ?_⟩⟩
   ·simp only[Nr,Og]
    simp
    omega
   ·rw[Nr,Og] at hiv
    have hiv:(cs.take off++(vs++cs.drop (off+vs.length)))[i]? =some v:=hiv
    rw[Q8 cs vs off i hle] at hiv
    have e5:(a.toList.take off++vs'++a.toList.drop (off+vs'.length)).toArray[i]? =if i<off then a.toList[i]? else if i<off+vs'.length then vs'[i-off]? else a.toList[i]? :=by
     have:=Q8 a.toList vs' off i (by simp;omega)
     rw[<-List.append_assoc] at this
     simpa using this
    rw[e5]
    split at hiv
    ·rename_i hi
     rw[if_pos hi]
     obtain⟨v',g1,g2,g3⟩:=e4 i v hiv
     exact⟨v',by simpa using g1,g2,g3⟩
    ·rename_i hi
     rw[if_neg hi]
     split at hiv
     ·rename_i hi2
      rw[if_pos (by omega)]
      obtain⟨v',g1,g2⟩:=hv.get hiv
      exact⟨v',g1,g2,N0 hb.2 v (List.mem_of_getElem? hiv)⟩
     ·rename_i hi2
      rw[if_neg (by omega)]
      obtain⟨v',g1,g2,g3⟩:=e4 i v hiv
      exact⟨v',by simpa using g1,g2,g3⟩
 ·cases hl
theorem ld_ok (h:Rel P B r s w) {t:TypeId} {k off b x:Nat} {v:Value} (hl:ld P s t k off=some v) (hr:r k=some (b,x)):∃v',VR r v v'/\(loadVar t ⟨b,off,none⟩).run P w= .ok v' w:=by
 unfold ld at hl
 split at hl
 ·rename_i n ha hs
  simp only[Option.map_eq_some_iff] at hl
  obtain⟨l,hl,rfl⟩:=hl
  obtain⟨h1,l',h2,h3,_⟩:=Rd h hl hr
  refine⟨.agg l'.toArray,.ag h2.arr.1 h2.arr.2,?_⟩
  have:=run_loadCells_list (P:=P) w ⟨b,off,none⟩ l' h3
  rw[<-h2.1,h1] at this
  simp[loadVar,Vi ha,Dz hs,this]
 ·rename_i n ha hs
  split at hl
  ·rename_i u q hq
   injection hl with hl;subst hl
   obtain⟨h1,l',h2,h3,_⟩:=Rd h hq hr
   obtain⟨v',q',rfl,g1,g2⟩:=h2.uncons
   have:=h3 0 v' rfl
   rw[F8,Nat.add_zero] at this
   exact⟨v',g1,by simp[loadVar,Sw ha,this]⟩
  ·cases hl
 ·cases hl
def Ky (P:Program) (K:Value->World->Prop):Result Go.Next->Prop
 | .ok (.value v) w=>K v w
 | .ok .skip w=>K undef w
 | .ok (.enter f args) w=>∀n,CallsIn Fence.wide n P f args w fun e w'=>∃v,e= .returned v/\K v w'
 | .ok (.round l f tmps asg body) w=>∀n,RoundIn Fence.wide n P l f tmps asg body w fun e w'=>∃v,e= .returned v/\K v w'
 |_=>False
def Res (P:Program) (B:Nat) (s s':St) (r:Rn) (w:World) (v:Value) (v':Value) (w':World):Prop:=∃r',VR r' v v'/\Dl P B s s' r r' w w'
theorem Sh {cs cs':List Value} {x:Nat} {t:TypeId} {r:Rn} (h:LR r cs cs') (h1:Fa cs=true):OR P r x (.cells cs t false) (.cells cs'.toArray t (0,0)):=
 ⟨cs'.toArray,rfl,by simp[h.1],fun i v hv=>let ⟨v',g1,g2⟩:=h.get hv;⟨v',by simpa using g1,g2,N0 h1 v (List.mem_of_getElem? hv)⟩⟩
theorem newC_ok (h:Rel P B r s w) (hB:s'.next<=B) {cs cs':List Value} {t:TypeId} {v:Value} (hn:newC s cs t=some (v,s')) (hc:LR r cs cs'):Res P B s s' r w v (.pointer (some ⟨w.heap.size,0,none⟩)) (w.alloc (.cells cs'.toArray t)):=by
 unfold newC at hn
 cases h1:Fa cs with
 |false=>rw[h1] at hn;cases hn
 |true=>
  rw[h1] at hn
  simp only[cond_true,Option.map_eq_some_iff] at hn
  obtain⟨⟨k,s2⟩,hn,e⟩:=hn
  injection e with e1 e2
  have e2:s2=s':=e2
  subst e2;subst e1
  obtain⟨_,hk,_⟩:=D4 hn
  have hup:∀i p,r i=some p->upd r k (w.heap.size,0) i=some p:=fun i p hi=>by rw[Dk (by rintro rfl;rw[h.fresh hn hB] at hi;cases hi)];exact hi
  exact⟨_,.ptr (Cg _ _ _),G6 h hB hn (x:=0) (Fv.alloc w _) (Sh (hc.mono hup) h1)⟩
theorem Yd (l:List Value):∀(n i:Nat),i<n*l.length->(Gb n l)[i]? =l[i%l.length]?
 |0,i,h=>by simp at h
 |n+1,i,h=>by
  simp only[Gb]
  rw[List.getElem?_append]
  split
  ·rename_i hi;rw[Nat.mod_eq_of_lt hi]
  ·rename_i hi
   have hl:l.length<=i:=by omega
   rw[Yd l n (i-l.length) (by rw[Nat.succ_mul] at h;omega)]
   congr 1
   rw[Nat.mod_eq_sub_mod hl]
theorem Ye (l:List Value):∀n,(Gb n l).length=n*l.length
 |0=>by simp[Gb]
 |n+1=>by simp only[Gb,List.length_append,Ye l n];rw[Nat.succ_mul];omega
theorem L9 (z:Array Value) (n:Nat):madeCells z (n*z.size)=(Gb n z.toList).toArray:=by
 apply Array.ext'
 apply List.ext_getElem?
 intro i
 by_cases hi:i<n*z.size
 ·have hz:0<z.size:=Nat.pos_of_ne_zero fun h=>by rw[h] at hi;simp at hi
  have hm:i%z.size<z.size:=Nat.mod_lt _ hz
  have:=Yd z.toList n i (by simpa using hi)
  simp only[Array.length_toList] at this
  simp[madeCells,hi,this,hm]
 ·have h1:(Gb n z.toList).length<=i:=by rw[Ye];simp;omega
  simp[madeCells,hi,h1]
theorem Pa {l:List Value} (h:Fa l=true):∀n,Fa (Gb n l)=true
 |0=>rfl
 |n+1=>by
  have ap:∀(a b:List Value),Fa a=true->Fa b=true->Fa (a++b)=true:=by
   intro a b
   induction a with
   |nil=>exact fun _ h=>h
   |cons v a ih=>intro h1 h2;simp only[List.cons_append,Fa,Bool.and_eq_true] at h1⊢;exact⟨h1.1,ih h1.2 h2⟩
  exact ap _ _ h (Pa h n)
theorem pls_app :∀(a b:List Value),pls a=true->pls b=true->pls (a++b)=true
 | [],b,_,h=>h
 |v::a,b,h1,h2=>by simp only[List.cons_append,pls,Bool.and_eq_true] at h1⊢;exact⟨h1.1,pls_app a b h1.2 h2⟩
theorem La {l:List Value} (h:pls l=true):∀n,pls (Gb n l)=true
 |0=>rfl
 |n+1=>pls_app _ _ h (La h n)
theorem Ny {z:Value} (h:pl z=true):pls z.cells.toList=true:=by
 cases z<;>try (simp[Value.cells,pls,h];done)
 rename_i c
 obtain⟨c⟩:=c
 show pls c=true
 simpa [pl] using h
theorem Gq {a b:Nat} (h:Nat.blt a b=true):a<b:=by simp[Nat.blt] at h;omega
theorem nb {s s':St} {f:Nat×St->Value×St} {q:Option (Nat×St)} {v:Value} (h:q.map f=some (v,s')):∃k s1,q=some (k,s1)/\f (k,s1)=(v,s'):=by
 simp only[Option.map_eq_some_iff] at h
 obtain⟨⟨k,s1⟩,h1,h2⟩:=h
 exact⟨k,s1,h1,h2⟩
theorem Du {t e:TypeId} (h:F4 P t=some e):P.underlying t=some (.slice e):=by
 unfold F4 at h
 split at h
 ·rename_i u;injection h with h;subst h;exact u
 ·cases h
theorem VR.mpv {r:Rn} {k b x:Nat} {v':Value} (h:VR r (.map (some k)) v') (hr:r k=some (b,x)):v'= .map (some b):=by
 cases h with
 |pln h=>simp[pl] at h
 |mp h=>rw[hr] at h;injection h with h;injection h with h _;subst h;rfl
theorem N8 {r:Rn} {kd a:IntKind} {x:Int}:∀(es:List MapEntry) (es':List MapEntry) (i:Nat) (q:Option Value),Ux (.int a x) es=some q->es'.length=es.length->(∀(j:Nat) e,es[j]? =some e->∃e',es'[j]? =some e'/\e'.key=e.key/\VR r e.val e'.val)->
  (q=none->Instr.findNow (.int kd) (.int a x) es' i=some none)/\(∀v,q=some v->∃j v',Instr.findNow (.int kd) (.int a x) es' i=some (some (j,v'))/\VR r v v')
 | [],es',i,q,h,hl,_=>by
  cases es' with
  |nil=>simp[Ux] at h;subst h;exact⟨fun _=>rfl,fun v hv=>by cases hv⟩
  |cons e l=>simp at hl
 |e::es,es',i,q,h,hl,he=>by
  cases es' with
  |nil=>simp at hl
  |cons e' l=>
   obtain⟨e2,g1,g2,g3⟩:=he 0 e rfl
   simp only[List.getElem?_cons_zero,Option.some.injEq] at g1
   subst g1
   have ih:=N8 (r:=r) (kd:=kd) (a:=a) (x:=x) es l (i+1) q
   simp only[Ux] at h
   split at h
   ·rename_i a2 x2 b2 y2 k1 k2
    injection k2 with k2 k3;subst k2;subst k3
    cases hd:decide (a2=a) with
    |false=>rw[hd] at h;cases h
    |true=>
     rw[hd] at h
     simp only[cond_true] at h
     have ha:a2=a:=by simpa using hd
     subst ha
     simp only[Instr.findNow,g2,k1,Instr.sameNow,if_true]
     cases hx:decide (x=x2) with
     |true=>
      rw[hx] at h
      injection h with h;subst h
      have hx:x=x2:=by simpa using hx
      subst hx
      simp only[beq_self_eq_true]
      exact⟨fun h=>(by cases h),fun v hv=>(by injection hv with hv;subst hv;exact⟨i,_,rfl,g3⟩)⟩
     |false=>
      rw[hx] at h
      have hx:¬x=x2:=by simpa using hx
      have:(x==x2)=false:=by simpa using hx
      simp only[this]
      exact ih h (by simpa using hl) fun j e3 h3=>he (j+1) e3 (by simpa using h3)
   ·cases h
variable {ρ ρ':Operand->Value} {o:Oper} {v:Value}
theorem fillP_ok {parts:Array (Nat×Operand)} {place:Nat->Option (Nat×Nat)} {c c' out:Array Value} (hp:∀p∈parts.toList,VR r (ρ p.2) (ρ' p.2)) (hc:AR r c c') (h:Instr.fill place c (parts.toList.map fun p=>(p.1,ρ p.2))=some out):
  ∃out',Instr.fill place c' (parts.toList.map fun p=>(p.1,ρ' p.2))=some out'/\AR r out out':=
 Qt place _ _ c c' out (by simp) (fun i p p' e1 e2=>by
  simp only[List.getElem?_map,Option.map_eq_some_iff] at e1 e2
  obtain⟨q,hq,rfl⟩:=e1
  obtain⟨q',hq',rfl⟩:=e2
  rw[hq] at hq';injection hq' with hq';subst hq'
  exact hp q (List.mem_of_getElem? hq)) hc h
theorem execH_ok {R:Rec} (h:Rel P B r s w) (hB:s'.next<=B) (he:execH P R ρ o s=some (v,s')) (hρ:∀x∈o.op.operands,VR r (ρ x) (ρ' x)) (hnc:∀c,o.op≠ .call c):Ky P (Res P B s s' r w v) ((execOp ρ' o).run P w):=by
 unfold execH at he
 split at he
 ·rename_i e hop
  split at he
  ·rename_i z hz
   obtain⟨i,hi,hzz,hpz⟩:=Ed hz
   have e1:(execOp ρ' o).run P w= .ok (.value (.pointer (some ⟨w.heap.size,0,none⟩))) (w.alloc (.cells z.cells e)):=by
    simp[execOp,hop,Instr.alloc,zeroValue,typeInfo,hi,hzz,newVar,newRow]
   rw[e1]
   exact newC_ok h hB he (cs':=z.cells.toList) (VR.pln hpz).cells
  ·cases he
 ·rename_i e x hop
  have e1:(execOp ρ' o).run P w= .ok (.value (.pointer (some ⟨w.heap.size,0,none⟩))) (w.alloc (.cells (ρ' x).cells e)):=by
   simp[execOp,hop,Instr.box,newVar,newRow]
  rw[e1]
  exact newC_ok h hB he (cs':=(ρ' x).cells.toList) (hρ x (by simp[hop,Op.operands])).cells
 ·rename_i t len parts hop
  split at he
  ·cases he
  ·rename_i e hE
   have hu:=Du hE
   split at he
   ·rename_i sz z hsz hz
    obtain⟨i,hi,hzz,hpz⟩:=Ed hz
    have hsi:i.size=sz:=by unfold szB at hsz;rw[hi] at hsz;simpa using hsz
    cases hc:(Nat.beq sz 0||Nat.blt 10000 (len*sz)|| !(Nat.beq z.cells.size sz)) with
    |true=>rw[hc] at he;cases he
    |false=>
     rw[hc] at he
     simp only[cond_false] at he
     simp only[Bool.or_eq_false_iff,Bool.not_eq_false'] at hc
     obtain⟨⟨c1,c2⟩,c3⟩:=hc
     have c3:z.cells.size=sz:=Nat.eq_of_beq_eq_true c3
     have c1:sz≠0:=by rintro rfl;cases c1
     have c2:len*sz<=10000:=by
      rcases Nat.lt_or_ge 10000 (len*sz) with hh|hh
      ·exfalso
       have:Nat.blt 10000 (len*sz)=true:=by simp[Nat.blt];omega
       rw[this] at c2;cases c2
      ·exact hh
     split at he
     ·cases he
     ·rename_i cs hcs
      have hz0:LR r (Gb len z.cells.toList) (Gb len z.cells.toList):=LR.plain (La (Ny hpz) len)
      obtain⟨out',f1,f2⟩:=fillP_ok (r:=r) (ρ':=ρ') (fun p hp=>hρ p.2 (by simp only[hop,Op.operands,List.mem_toArray,List.mem_map];exact⟨p,hp,rfl⟩)) hz0.arr hcs
      cases h1:Fa cs.toList with
      |false=>rw[h1] at he;cases he
      |true=>
       rw[h1] at he
       obtain⟨k,s1,hn,e2⟩:=nb (s:=s) he
       simp only[Prod.mk.injEq] at e2
       obtain⟨e2,rfl⟩:=e2
       have hm:(Array.range (len*sz)).map (z.cells[·%z.cells.size]!)=(Gb len z.cells.toList).toArray:=by
        have:=L9 z.cells len
        rw[c3] at this
        unfold madeCells at this
        rw[<-this,c3]
       have e1:(execOp ρ' o).run P w= .ok (.value (.slice (some ⟨w.heap.size,0,none⟩) len len)) (w.alloc (.cells out' e)):=by
        have hlim:¬(2^24<len*sz):=by omega
        have hlim':¬(16777216<len*sz):=by omega
        by_cases h0:len*sz=0
        ·have hl0:len=0:=by rcases Nat.mul_eq_zero.1 h0 with hh|hh;exact hh;exact absurd hh c1
         subst hl0
         have hr:(#[]:Array Value)=(Gb 0 z.cells.toList).toArray:=rfl
         simp only[Nat.zero_mul] at hm
         simp[execOp,hop,Instr.buildSlice,run_underlying hu,Dz hsz,newRow]
         simp only[Gb] at f1
         rw[show Array.map (fun _:Nat=>(default:Value)) (Array.range 0)=([]:List Value).toArray from by simp[Array.range_zero'],f1]
         simp
        ·have hm':Array.map (fun x=>z.cells[x%sz]!) (Array.range (len*sz))=(Gb len z.cells.toList).toArray:=by rw[<-hm,c3]
         simp[execOp,hop,Instr.buildSlice,run_underlying hu,Dz hsz,newRow,hlim',h0,zeroValue,typeInfo,hi,hzz,c3,hm',f1]
       rw[e1,<-e2]
       obtain⟨_,hk,_⟩:=D4 hn
       have hup:∀i p,r i=some p->upd r k (w.heap.size,0) i=some p:=fun i p hi=>by rw[Dk (by rintro rfl;rw[h.fresh hn hB] at hi;cases hi)];exact hi
       refine⟨_,.sl (Cg _ _ _),G6 h hB hn (x:=0) (Fv.alloc w _) ?_⟩
       have:=Sh (P:=P) (t:=e) (x:=0) (f2.list.mono hup) h1
       simpa using this
   ·cases he
 ·rename_i t a hop
  split at he
  ·rename_i k off hk
   simp only[Option.map_eq_some_iff,Prod.mk.injEq] at he
   obtain⟨u,hl,rfl,rfl⟩:=he
   have ha:=hρ a (by simp[hop,Op.operands])
   rw[hk] at ha
   obtain⟨b,x,hr,e⟩:=ha.pt
   obtain⟨v',g1,g2⟩:=ld_ok h hl hr
   have e1:(execOp ρ' o).run P w= .ok (.value v') w:=by simp[execOp,hop,e,Instr.loadAt,Instr.sureAddr,g2]
   rw[e1]
   exact⟨r,g1,Dl.refl h⟩
  ·cases he
 ·rename_i t a x hop
  split at he
  ·rename_i k off n hk hsz
   cases hc:Nat.beq (ρ x).cells.size n with
   |false=>rw[hc] at he;cases he
   |true=>
    rw[hc] at he
    simp only[cond_true,Option.map_eq_some_iff,Prod.mk.injEq] at he
    obtain⟨s1,hl,rfl,rfl⟩:=he
    have hc:=Nat.eq_of_beq_eq_true hc
    have ha:=hρ a (by simp[hop,Op.operands])
    rw[hk] at ha
    obtain⟨b,y,hr,e⟩:=ha.pt
    have hx:=(hρ x (by simp[hop,Op.operands])).cells
    obtain⟨cur,t',g1,g2,g3,_,g4⟩:=wr_ok h hl hr hx
    have hst:=run_storeCells_at P b off t' (ρ' x).cells.toList 0 cur w g1 (by simpa using g2) g3
    have hn:(ρ' x).cells.size=n:=by have:=hx.1;simp at this;omega
    have e1:(execOp ρ' o).run P w= .ok .skip (w.setRow b (cur.toList.take off++(ρ' x).cells.toList++cur.toList.drop (off+(ρ' x).cells.toList.length)).toArray):=by
     simp only[Nat.add_zero] at hst
     simp[execOp,hop,e,Instr.storeAt,Instr.sureAddr,storeVar,Dz hsz,hn]
     rw[hst]
     simp[hn]
    rw[e1]
    exact⟨r,VR.undef,g4⟩
  ·cases he
 ·rename_i t l c hop
  split at he
  ·cases he
  ·rename_i e hE
   have hu:=Du hE
   split at he
   ·rename_i i z kl l' kc c' hi hz hl hc
    obtain⟨i2,hi2,hzz,hpz⟩:=Ed hz
    rw[hi] at hi2;injection hi2 with hi2;subst hi2
    cases hcc:(Nat.ble l' c'&&Nat.ble (Nat.mul c' (Nat.add (Nat.add i.size i.bytes) 1)) 10000000&&Nat.beq z.cells.size i.size&&Fa z.cells.toList) with
    |false=>rw[hcc] at he;cases he
    |true=>
     rw[hcc] at he
     simp only[cond_true] at he
     simp only[Bool.and_eq_true,Nat.ble_eq] at hcc
     obtain⟨⟨⟨c1,c2⟩,c3⟩,c4⟩:=hcc
     have c3:=Nat.eq_of_beq_eq_true c3
     have c2:c'*(i.size+i.bytes+1)<=10000000:=c2
     obtain⟨k,s1,hn,e2⟩:=nb (s:=s) he
     simp only[Prod.mk.injEq] at e2
     obtain⟨e2,rfl⟩:=e2
     have hl':=hρ l (by simp[hop,Op.operands])
     have hc':=hρ c (by simp[hop,Op.operands])
     rw[hl] at hl'
     rw[hc] at hc'
     have hb:i.bytes*c'<=10000000:=by
      have:c'*(i.size+i.bytes+1)=c'*i.size+i.bytes*c'+c':=by rw[Nat.mul_add,Nat.mul_add,Nat.mul_comm c' i.bytes,Nat.mul_one]
      omega
     have hcb:c'<=10000000:=by
      have:c'*(i.size+i.bytes+1)=c'*i.size+i.bytes*c'+c':=by rw[Nat.mul_add,Nat.mul_add,Nat.mul_comm c' i.bytes,Nat.mul_one]
      omega
     have hmk:=run_make (P:=P) w t e i z hu hi hzz kl kc (l':Int) (c':Int) (by omega) (by omega) (by have:((i.bytes*c':Nat):Int)<=10000000:=(by omega);rw[Int.natCast_mul] at this;omega) (by omega)
     have e1:(execOp ρ' o).run P w= .ok (.value (.slice (some ⟨w.heap.size,0,none⟩) l' c')) (w.alloc (.cells (madeCells z.cells (c'*i.size)) e)):=by
      have q1:=hl'.int
      have q2:=hc'.int
      simp only[Int.ofNat_eq_natCast] at q1 q2
      simp only[execOp,hop,q1,q2]
      simp[hmk]
     rw[e1,<-e2]
     obtain⟨_,hk,_⟩:=D4 hn
     refine⟨_,.sl (Cg _ _ _),G6 h hB hn (x:=0) (Fv.alloc w _) ?_⟩
     have:=Sh (P:=P) (t:=e) (x:=0) (r:=upd r k (w.heap.size,0)) (LR.plain (La (Ny hpz) c')) (Pa c4 c')
     rw[<-L9,c3] at this
     exact this
   ·cases he
 ·rename_i t hop
  obtain⟨k,s1,hn,e2⟩:=nb (s:=s) he
  simp only[Prod.mk.injEq] at e2
  obtain⟨rfl,rfl⟩:=e2
  have e1:(execOp ρ' o).run P w= .ok (.value (.map (some w.heap.size))) (w.alloc (.map #[] 0)):=by
   simp[execOp,hop,Instr.makeMap]
  rw[e1]
  exact⟨_,.mp (Cg _ _ _),G6 h hB hn (x:=0) (Fv.alloc w _) ⟨#[],rfl,rfl,fun i e hi=>by simp at hi⟩⟩
 ·rename_i t m k y hop
  split at he
  ·rename_i rr kt et hm hut
   split at he
   ·rename_i kd a x es c hkt hk hg
    split at he
    ·rename_i hf
     simp only[Option.map_eq_some_iff,Prod.mk.injEq] at he
     obtain⟨s1,hl,rfl,rfl⟩:=he
     have hm':=hρ m (by simp[hop,Op.operands])
     have hk':=hρ k (by simp[hop,Op.operands])
     have hy':=hρ y (by simp[hop,Op.operands])
     rw[hm] at hm'
     rw[hk] at hk'
     obtain⟨b,x0,o',hr,hw,es',rfl,g2,g3⟩:=h.obj _ _ hg
     have hmb:ρ' m= .map (some b):=hm'.mpv hr
     obtain⟨f1,_⟩:=N8 (r:=r) (kd:=kd) es es'.toList 0 none hf (by simpa using g2) (fun j e hj=>by simpa using g3 j e hj)
     have hlt:b<w.heap.size:=(Array.getElem?_eq_some_iff.1 hw).1
     have hck:(Instr.checkKey false 10000 kt (.int a x)).run P w= .ok () w:=by
      show (Instr.checkKey false (9999+1) kt (.int a x)).run P w=_
      rw[Instr.checkKey]
      simp[run_underlying hkt]
     have e1:(execOp ρ' o).run P w= .ok .skip {w with heap:=w.heap.setIfInBounds b (.map (es'.push {key:= .int a x,val:=ρ' y,born:=c}) (c+1))}:=by
      simp[execOp,hop,hmb,hk'.int,Instr.mapUpdate,run_underlying hut,getObj,setObj,Sem.run,hw,hck,Instr.findKey,run_underlying hkt,f1 rfl]
     rw[e1]
     refine⟨r,VR.undef,Rf h hl hg hr (Qg.obj _ hlt) ⟨_,rfl,by simp[g2],fun i e hi=> ?_⟩⟩
     rw[List.getElem?_append] at hi
     split at hi
     ·rename_i hlt2
      obtain⟨e',q1,q2,q3⟩:=g3 i e hi
      exact⟨e',by rw[Array.getElem?_push,if_neg (by omega)];exact q1,q2,q3⟩
     ·rename_i hlt2
      have:i=es.length:=by
       rcases Nat.lt_or_ge (i-es.length) 1 with hh|hh
       ·omega
       ·rw[List.getElem?_eq_none (by simpa using hh)] at hi;cases hi
      subst this
      simp at hi
      subst hi
      exact⟨{key:= .int a x,val:=ρ' y,born:=c},by rw[<-g2];simp,rfl,hy'⟩
    ·cases he
   ·cases he
  ·cases he
 ·rename_i t m k hop
  split at he
  ·rename_i rr kt et hm hut
   split at he
   ·rename_i kd a x es c hkt hk hg
    have hm':=hρ m (by simp[hop,Op.operands])
    have hk':=hρ k (by simp[hop,Op.operands])
    rw[hm] at hm'
    rw[hk] at hk'
    obtain⟨b,x0,o',hr,hw,es',rfl,g2,g3⟩:=h.obj _ _ hg
    have hmb:ρ' m= .map (some b):=hm'.mpv hr
    have hck:∀em,(Instr.checkKey em 10000 kt (.int a x)).run P w= .ok () w:=fun em=>by
     show (Instr.checkKey em (9999+1) kt (.int a x)).run P w=_
     rw[Instr.checkKey]
     simp[run_underlying hkt]
    split at he
    ·rename_i z hf hz
     injection he with he;injection he with e2 e3;subst e2;subst e3
     obtain⟨i,hi,hzz,hpz⟩:=Ed hz
     obtain⟨f1,_⟩:=N8 (r:=r) (kd:=kd) es es'.toList 0 none hf (by simpa using g2) (fun j e hj=>by simpa using g3 j e hj)
     have e1:(execOp ρ' o).run P w= .ok (.value (.tuple #[z,.bool false])) w:=by
      simp[execOp,hop,hmb,hk'.int,Instr.lookup,run_underlying hut,getObj,Sem.run,hw,hck,Instr.findKey,run_underlying hkt,f1 rfl,zeroValue,typeInfo,hi,hzz]
     rw[e1]
     exact⟨r,.pln (by simp[pl,pls,hpz]),Dl.refl h⟩
    ·rename_i u z hf hz
     injection he with he;injection he with e2 e3;subst e2;subst e3
     obtain⟨_,f2⟩:=N8 (r:=r) (kd:=kd) es es'.toList 0 (some u) hf (by simpa using g2) (fun j e hj=>by simpa using g3 j e hj)
     obtain⟨j,u',f3,f4⟩:=f2 u rfl
     have e1:(execOp ρ' o).run P w= .ok (.value (.tuple #[u',.bool true])) w:=by
      simp[execOp,hop,hmb,hk'.int,Instr.lookup,run_underlying hut,getObj,Sem.run,hw,hck,Instr.findKey,run_underlying hkt,f3]
     rw[e1]
     have:=(LR.cons f4 (LR.cons (r:=r) (.pln (v:= .bool true) rfl) LR.nil)).arr
     exact⟨r,.tu this.1 this.2,Dl.refl h⟩
    ·cases he
   ·cases he
  ·cases he
 ·rename_i t x hop
  split at he
  ·rename_i sx hx hu
   obtain⟨k,s1,hn,e2⟩:=nb (s:=s) he
   simp only[Prod.mk.injEq] at e2
   obtain⟨rfl,rfl⟩:=e2
   have hx':=hρ x (by simp[hop,Op.operands])
   rw[hx] at hx'
   have e1:(execOp ρ' o).run P w= .ok (.value (.pointer (some ⟨w.heap.size,0,none⟩))) (w.alloc (.stringIter sx 0)):=by
    simp[execOp,hop,hx'.str,Instr.range,run_underlying hu]
   rw[e1]
   exact⟨_,.ptr (Cg _ _ _),G6 h hB hn (x:=0) (Fv.alloc w _) rfl⟩
  ·cases he
 ·rename_i x hop
  split at he
  ·rename_i k hk
   split at he
   ·rename_i sx pos hg
    have hx':=hρ x (by simp[hop,Op.operands])
    rw[hk] at hx'
    obtain⟨b,y,hr,e⟩:=hx'.pt
    obtain⟨b',y',o',hr',hw,rfl⟩:=h.obj _ _ hg
    rw[hr] at hr';injection hr' with hr';injection hr' with hr' hr2;subst hr';subst hr2
    have hlt:b<w.heap.size:=(Array.getElem?_eq_some_iff.1 hw).1
    cases hc:Nat.blt pos sx.size with
    |true=>
     rw[hc] at he
     simp only[cond_true,Option.map_eq_some_iff,Prod.mk.injEq] at he
     obtain⟨s1,hl,rfl,rfl⟩:=he
     have hp:=Gq hc
     have e1:(execOp ρ' o).run P w= .ok (.value (.tuple #[.bool true,.int .i64 pos,.int .i32 (Utf8.decode sx pos).1])) {w with heap:=w.heap.setIfInBounds b (.stringIter sx (pos+(Utf8.decode sx pos).2))}:=by
      simp[execOp,hop,e,Instr.next,getObj,setObj,Sem.run,hw,hp,goInt]
     rw[e1]
     exact⟨r,.pln rfl,Rf h hl hg hr (Qg.obj _ hlt) rfl⟩
    |false=>
     rw[hc] at he
     injection he with he;injection he with e2 e3;subst e2;subst e3
     have hp:¬pos<sx.size:=fun hh=>by
      have:Nat.blt pos sx.size=true:=by simp[Nat.blt];omega
      rw[this] at hc;cases hc
     have e1:(execOp ρ' o).run P w= .ok (.value (.tuple #[.bool false])) w:=by
      simp[execOp,hop,e,Instr.next,getObj,Sem.run,hw,hp]
     rw[e1]
     exact⟨r,.pln rfl,Dl.refl h⟩
   ·cases he
  ·cases he
 ·rename_i c hop;exact absurd hop (hnc c)
 ·cases he
end
set_option maxRecDepth 100000
theorem Qw (l:List Value) (a:Array Value):(l++a.toList).toArray=l.toArray++a:=by apply Array.ext';simp
section
variable {P:Program} {B:Nat} {r:Rn} {s s':St} {w:World} {v:Value}
theorem Oc (w:World) (need old:Nat) (e:TypeId):need<=grownCap w need old e:=by unfold grownCap;exact Nat.le_add_right _ _
theorem U4 (n:Nat):∀(k c:Nat),c<=n->Builtin.growBy n k c<=2*n+768
 |0,c,h=>by simp only[Builtin.growBy];omega
 |k+1,c,h=>by
  simp only[Builtin.growBy]
  split
  ·omega
  ·rename_i hc
   rcases Nat.lt_or_ge n (c+(c+768)/4) with h1|h1
   ·cases k with
    |zero=>simp only[Builtin.growBy];omega
    |succ k=>simp only[Builtin.growBy];rw[if_pos (by omega)];omega
   ·exact U4 n k _ h1
theorem Qb {n c:Nat} (h:c<n):Builtin.nextslicecap n c<=8*(n+64)+256:=by
 unfold Builtin.nextslicecap
 split
 ·omega
 ·split
  ·omega
  ·have:=U4 n 4 c (by omega);omega
theorem fit_of {n c b:Nat} (h:c<n) (hb:8*(n+64)*(b+1)<=100000000):Builtin.nextslicecap n c*b<=281474976710656:=by
 have h1:=Qb h
 have h2:Builtin.nextslicecap n c*b<=(8*(n+64)+256)*(b+1):=Nat.mul_le_mul h1 (by omega)
 have h3:(8*(n+64)+256)*(b+1)<=2*(8*(n+64))*(b+1):=Nat.mul_le_mul_right _ (by omega)
 rw[Nat.mul_assoc] at h3
 omega
theorem Tw (z:Array Value) (k:Nat):(Builtin.zeroCells z k).size=k*z.size:=by simp[Builtin.zeroCells]
theorem Nz {cs cs':List Value} {x:Nat} {t:TypeId} {i:TypeInfo} {r:Rn} {tail:List Value} (hi:P.info? t=some i) (h:LR r cs cs') (h1:Fa cs=true) (ht:tail.length=x*i.size):OR P r x (.cells cs t true) (.cells (cs'++tail).toArray t (0,0)):=
 ⟨_,rfl,by simp[h.1,ht,szB,hi],fun j v hv=>by
  obtain⟨v',g1,g2⟩:=h.get hv
  have hj:j<cs'.length:=(List.getElem?_eq_some_iff.1 g1).1
  have g1':(cs'++tail)[j]? =some v':=by rw[List.getElem?_append_left hj];exact g1
  exact⟨v',by simpa using g1',g2,N0 h1 v (List.mem_of_getElem? hv)⟩⟩
theorem LR.len {l l':List Value} (h:LR r l l'):l'.length=l.length:=h.1.symm
theorem V6 (h:Rel P B r s w) {k off n:Nat} {l:List Value} (hl:rd s k off n=some l):Fa l=true:=by
 have h0:=hl
 unfold rd at h0
 split at h0
 ·rename_i cs t op hg
  obtain⟨b,x,o',e1,e2,a,rfl,e3,e4⟩:=h.obj k _ hg
  obtain⟨-,l',h2,-,h4⟩:=Rd h hl e1
  clear e4 e3 hg h0 hl e2
  induction l generalizing l' with
  |nil=>rfl
  |cons u q ih=>
   obtain⟨v',q',rfl,g1,g2⟩:=h2.uncons
   simp only[Fa,Bool.and_eq_true]
   exact⟨by rw[<-g1.one];exact h4 v' (by simp),ih q' g2 fun v hv=>h4 v (by simp[hv])⟩
 ·cases h0
theorem Rk :∀ {a b:List Value},Fa a=true->Fa b=true->Fa (a++b)=true
 | [],b,_,h=>h
 |v::a,b,h1,h2=>by simp only[List.cons_append,Fa,Bool.and_eq_true] at h1⊢;exact⟨h1.1,Rk h1.2 h2⟩
theorem Xh {α:Type} {c:Bool} {x:Option α} {y:α} (h:(bif c then x else none)=some y):c=true/\x=some y:=by
 cases c with
 |true=>exact⟨rfl,h⟩
 |false=>cases h
theorem Q0 (z:Array Value) (n:Nat):Builtin.zeroCells z n=(Gb n z.toList).toArray:=by
 have:=L9 z n
 unfold madeCells at this
 unfold Builtin.zeroCells
 exact this
theorem appZ_ok (h:Rel P B r s w) (hB:s'.next<=B) {t u:TypeId} {x x':Value} {n:Nat} {k:IntKind} (hb:appZ P s t u x n=some (v,s')) (hx:VR r x x') (ty:TypeId):
  ∃v' w',(Builtin.append_ #[t,u] ty #[x',.int k n]).run P w= .ok v' w'/\Res P B s s' r w v v' w':=by
 unfold appZ at hb
 split at hb
 case h_2=>cases hb
 rename_i kn hut
 split at hb
 ·cases hb
 rename_i e hE
 have hu:=Du hE
 split at hb
 case h_2=>cases hb
 rename_i i z hi hz
 obtain⟨i2,hi2,hzz,hpz⟩:=Ed hz
 rw[hi] at hi2;injection hi2 with hi2;subst hi2
 obtain⟨hc,hb⟩:=Xh hb
 simp only[Bool.and_eq_true] at hc
 have hzs:=Nat.eq_of_beq_eq_true hc.1
 have hn0:=Gq hc.2.1
 have hs0:=Gq hc.2.2.1
 have hone:=hc.2.2.2
 have tl:∀g:Nat,((Builtin.zeroCells z.cells g).toList).length=g*i.size:=fun g=>by simp[Tw,hzs]
 have hpls:pls (Gb n z.cells.toList)=true:=La (Ny hpz) n
 have hro:Fa (Gb n z.cells.toList)=true:=Pa hone n
 split at hb
 ·obtain⟨hbig,hb⟩:=Xh hb
  have hbig1:8*(0+n+64)*(i.bytes+1)<=100000000:=by
   have:8*(n+64)*(i.bytes+1)<=100000000:=by simpa using hbig
   rw[Nat.zero_add];exact this
  have hnn:n<=100000000:=by
   have:8*(0+n+64)*1<=8*(0+n+64)*(i.bytes+1):=Nat.mul_le_mul_left _ (by omega)
   omega
  obtain⟨kk,s1,hn,e2⟩:=nb (s:=s) hb
  simp only[Prod.mk.injEq] at e2
  obtain⟨rfl,rfl⟩:=e2
  rw[hx.same rfl]
  have hb1:n*i.bytes<=281474976710656:=by
   have:n*i.bytes<=8*(0+n+64)*(i.bytes+1):=Nat.mul_le_mul (by omega) (by omega)
   omega
  refine⟨_,_,Lib.run_append_nil_zeros w t u ty e i z k kn hu hut hi hzz n hn0 hs0 (by omega) hb1,upd r kk (w.heap.size,grownCap w n 0 e-n),?_,G6 h hB hn (Fv.drew w _) ?_⟩
  ·have hge:=Oc w n 0 e
   have:=VR.so (r:=upd r kk (w.heap.size,grownCap w n 0 e-n)) (off:=0) (n:=n) (c:=n) (Cg r kk _)
   rwa [show n+(grownCap w n 0 e-n)=grownCap w n 0 e by omega] at this
  ·have:=Nz (P:=P) (x:=grownCap w n 0 e-n) (r:=upd r kk (w.heap.size,grownCap w n 0 e-n)) hi (LR.plain hpls) hro (tl _)
   rw[Qw,<-Q0] at this
   exact this
 ·rename_i k0 off len cap _
  obtain⟨hg,hb3⟩:=Xh hb
  clear hb
  simp only[Bool.and_eq_true] at hg
  have hroom:cap<len+n:=Gq hg.1
  have hbig1:8*(len+n+64)*(i.bytes+1)<=100000000:=by simpa using hg.2
  have hnn:len+n<=100000000:=by
   have:8*(len+n+64)*1<=8*(len+n+64)*(i.bytes+1):=Nat.mul_le_mul_left _ (by omega)
   omega
  split at hb3
  ·cases hb3
  rename_i old hold
  obtain⟨k',off',b,x,hr,hx⟩:=hx.slc
  have hk:k'=k0/\off'=off:=by rcases hx with⟨e1,_⟩|⟨e1,_⟩<;>injection e1 with e1 e3 e4<;>exact⟨e1.symm,e3.symm⟩
  obtain⟨rfl,rfl⟩:=hk
  obtain⟨ho1,old',ho2,ho3,ho4⟩:=Rd h hold hr
  have hol:old'.length=len*i.size:=by rw[ho2.len];exact ho1
  have hoo:=V6 h hold
  obtain⟨k2,s1,hn,e2⟩:=nb (s:=s) hb3
  simp only[Prod.mk.injEq] at e2
  obtain⟨rfl,rfl⟩:=e2
  have hxx:x'= .slice (some ⟨b,off',none⟩) len cap:=by
   rcases hx with⟨_,e2⟩|⟨e1,_⟩
   ·exact e2
   ·injection e1 with _ _ e1;cases e1
  subst hxx
  have hf:=run_firstCells_some (P:=P) w.drew i.size len ⟨b,off',none⟩ len cap old' hol (by simpa using ho3)
  have hb1:n*i.bytes<=281474976710656:=by
   have:n*i.bytes<=8*(len+n+64)*(i.bytes+1):=Nat.mul_le_mul (by omega) (by omega)
   omega
  refine⟨_,_,Lib.run_append_grow_zeros w t u ty e i z k kn hu hut hi hzz (some ⟨b,off',none⟩) len cap old' hf n hn0 hs0 hroom (by omega) hb1 (fit_of hroom hbig1),upd r k2 (w.heap.size,grownCap w (len+n) cap e-(len+n)),?_,G6 h hB hn (Fv.drew w _) ?_⟩
  ·have hge:=Oc w (len+n) cap e
   have:=VR.so (r:=upd r k2 (w.heap.size,grownCap w (len+n) cap e-(len+n))) (off:=0) (n:=len+n) (c:=len+n) (Cg r k2 _)
   rwa [show len+n+(grownCap w (len+n) cap e-(len+n))=grownCap w (len+n) cap e by omega] at this
  ·have hup:∀j p,r j=some p->upd r k2 (w.heap.size,grownCap w (len+n) cap e-(len+n)) j=some p:=fun j p hj=>by rw[Dk (by rintro rfl;rw[h.fresh hn hB] at hj;cases hj)];exact hj
   have:=Nz (P:=P) (x:=grownCap w (len+n) cap e-(len+n)) hi ((ho2.app (LR.plain hpls)).mono hup) (Rk hoo hro) (tl _)
   rw[Qw,<-List.append_toArray,<-Q0] at this
   exact this
 ·cases hb
theorem appB_ok (h:Rel P B r s w) (hB:s'.next<=B) {t:TypeId} {x y x' y':Value} (hb:appB P s t x y=some (v,s')) (hx:VR r x x') (hy:VR r y y') (ty:TypeId):
  ∃v' w',(Builtin.append_ #[t,t] ty #[x',y']).run P w= .ok v' w'/\Res P B s s' r w v v' w':=by
 unfold appB at hb
 split at hb
 ·cases hb
 rename_i e hE
 have hu:=Du hE
 split at hb
 case h_2=>cases hb
 rename_i i z hi hz
 obtain⟨i2,hi2,hzz,hpz⟩:=Ed hz
 rw[hi] at hi2;injection hi2 with hi2;subst hi2
 cases hzs:Nat.beq z.cells.size i.size with
 |false=>rw[hzs] at hb;cases hb
 |true=>
  rw[hzs] at hb
  have hzs:=Nat.eq_of_beq_eq_true hzs
  simp only[cond_true] at hb
  split at hb
  ·rename_i a len cap kb ob sb n cb
   obtain⟨kb',ob',bb,xb,hrb,hy⟩:=hy.slc
   have hyy:∃c',y'= .slice (some ⟨bb,ob,none⟩) n c'/\kb'=kb:=by
    rcases hy with⟨e1,e2⟩|⟨e1,e2⟩<;>injection e1 with e1 e3 e4<;>subst e1<;>subst e3<;>exact⟨_,e2,rfl⟩
   obtain⟨cb',rfl,rfl⟩:=hyy
   clear hy
   split at hb
   ·cases hb
   rename_i src hsrc
   obtain⟨hl1,src',hl2,hl3,hl4⟩:=Rd h hsrc hrb
   have hsl:src'.length=n*i.size:=by rw[hl2.len];exact hl1
   have hso:=V6 h hsrc
   cases hroom:Nat.ble (Nat.add len n) cap with
   |true=>
    rw[hroom] at hb
    simp only[cond_true] at hb
    have hroom:len+n<=cap:=by simpa using hroom
    split at hb
    ·rename_i k sp
     split at hb
     ·rename_i cs0 t' op hg
      cases ht:Nat.beq t' e with
      |false=>rw[ht] at hb;cases hb
      |true=>
       rw[ht] at hb
       have ht:=Nat.eq_of_beq_eq_true ht
       subst ht
       simp only[cond_true,Option.map_eq_some_iff,Prod.mk.injEq] at hb
       obtain⟨s1,hw,rfl,rfl⟩:=hb
       obtain⟨k',off',b,x,hr,hx⟩:=hx.slc
       have hk:k'=k:=by rcases hx with⟨e1,_⟩|⟨e1,_⟩<;>injection e1 with e1 e3 e4<;>exact e1.symm
       subst hk
       obtain⟨cur,t2,g1,g2,g3,⟨cs1,op1,g5,_⟩,g4⟩:=wr_ok h hw hr hl2
       rw[hg] at g5;injection g5 with g5;injection g5 with _ g5 _;subst g5
       rcases hx with⟨e1,e2⟩|⟨e1,e2⟩<;>injection e1 with e1 e3 e4<;>subst e3<;>subst e4<;>subst e2
       ·exact⟨_,_,run_append_room w t ty _ i hu hi b len cap cur g1 ⟨bb,ob,none⟩ n cb' src' hsl hl3 hl4 hroom g2,r,.sl hr,g4⟩
       ·exact⟨_,_,run_append_room w t ty _ i hu hi b len (cap+x) cur g1 ⟨bb,ob,none⟩ n cb' src' hsl hl3 hl4 (by omega) g2,r,.so hr,g4⟩
     ·cases hb
    ·cases hb
   |false=>
    rw[hroom] at hb
    simp only[cond_false] at hb
    have hroom:cap<len+n:=by
     rcases Nat.lt_or_ge cap (len+n) with hh|hh
     ·exact hh
     ·have:Nat.ble (Nat.add len n) cap=true:=by simpa using hh
      rw[this] at hroom;cases hroom
    cases hbig:(Nat.ble (Nat.mul (Nat.mul 8 (Nat.add (Nat.add len n) 64)) (Nat.add i.bytes 1)) 100000000&&Fa src) with
    |false=>rw[hbig] at hb;cases hb
    |true=>
     rw[hbig] at hb
     simp only[cond_true] at hb
     simp only[Bool.and_eq_true,Nat.ble_eq] at hbig
     have hbig1:8*(len+n+64)*(i.bytes+1)<=100000000:=hbig.1
     have hnn:len+n<=100000000:=by
      have:8*(len+n+64)*1<=8*(len+n+64)*(i.bytes+1):=Nat.mul_le_mul_left _ (by omega)
      omega
     have tl:∀g:Nat,((Builtin.zeroCells z.cells g).toList).length=g*i.size:=fun g=>by simp[Tw,hzs]
     split at hb
     ·--nothing before
      cases h0:(Nat.beq len 0&&Nat.beq cap 0) with
      |false=>rw[h0] at hb;cases hb
      |true=>
       rw[h0] at hb
       simp only[cond_true] at hb
       simp only[Bool.and_eq_true] at h0
       obtain⟨rfl,rfl⟩:len=0/\cap=0:=⟨Nat.eq_of_beq_eq_true h0.1,Nat.eq_of_beq_eq_true h0.2⟩
       cases hn0:Nat.blt 0 n with
       |false=>rw[hn0] at hb;cases hb
       |true=>
        rw[hn0] at hb
        obtain⟨k,s1,hn,e2⟩:=nb (s:=s) hb
        simp only[Prod.mk.injEq] at e2
        obtain⟨rfl,rfl⟩:=e2
        have hn0:=Gq hn0
        rw[hx.same rfl]
        have hb1:n*i.bytes<=281474976710656:=by
         have:n*i.bytes<=8*(0+n+64)*(i.bytes+1):=Nat.mul_le_mul (by omega) (by omega)
         omega
        refine⟨_,_,run_append_nil w t ty e i z hu hi hzz ⟨bb,ob,none⟩ n cb' src' hsl hl3 hn0 (by omega) hb1,upd r k (w.heap.size,grownCap w n 0 e-n),?_,G6 h hB hn (Fv.drew w _) ?_⟩
        ·have hge:=Oc w n 0 e
         have:=VR.so (r:=upd r k (w.heap.size,grownCap w n 0 e-n)) (off:=0) (n:=n) (c:=n) (Cg r k _)
         rwa [show n+(grownCap w n 0 e-n)=grownCap w n 0 e by omega] at this
        ·obtain⟨_,hk,_⟩:=D4 hn
         have hup:∀j p,r j=some p->upd r k (w.heap.size,grownCap w n 0 e-n) j=some p:=fun j p hj=>by rw[Dk (by rintro rfl;rw[h.fresh hn hB] at hj;cases hj)];exact hj
         have:=Nz (P:=P) (x:=grownCap w n 0 e-n) hi (hl2.mono hup) hso (tl _)
         rw[Qw] at this
         exact this
     ·rename_i k off sp
      split at hb
      ·cases hb
      rename_i old hold
      obtain⟨k',off',b,x,hr,hx⟩:=hx.slc
      have hk:k'=k/\off'=off:=by rcases hx with⟨e1,_⟩|⟨e1,_⟩<;>injection e1 with e1 e3 e4<;>exact⟨e1.symm,e3.symm⟩
      obtain⟨rfl,rfl⟩:=hk
      obtain⟨ho1,old',ho2,ho3,ho4⟩:=Rd h hold hr
      have hol:old'.length=len*i.size:=by rw[ho2.len];exact ho1
      have hoo:=V6 h hold
      have hall:=Rk hoo hso
      --it grows,the memory being s0's
      have grow:∀(s0:St) (cap':Nat),Rel P B r s0 w->cap'<len+n->s0.next=s.next->∀k2 s2,s2.next<=B->s0.new (.cells (old++src) e true)=some (k2,s2)->
        ∃v' w',(Builtin.append_ #[t,t] ty #[.slice (some ⟨b,off',none⟩) len cap',.slice (some ⟨bb,ob,none⟩) n cb']).run P w= .ok v' w'/\Res P B s0 s2 r w (.slice (some ⟨k2,0,some 0⟩) (len+n) (len+n)) v' w':=by
       intro s0 cap' h0 hc hnx k2 s2 hB2 hn
       obtain⟨_,hk,_⟩:=D4 hn
       refine⟨_,_,run_append_grow w t ty e i z hu hi hzz ⟨b,off',none⟩ len cap' old' hol ho3 ⟨bb,ob,none⟩ n cb' src' hsl hl3 hc (by omega) (fit_of hc hbig1),upd r k2 (w.heap.size,grownCap w (len+n) cap' e-(len+n)),?_,G6 h0 hB2 hn (Fv.drew w _) ?_⟩
       ·have hge:=Oc w (len+n) cap' e
        have:=VR.so (r:=upd r k2 (w.heap.size,grownCap w (len+n) cap' e-(len+n))) (off:=0) (n:=len+n) (c:=len+n) (Cg r k2 _)
        rwa [show len+n+(grownCap w (len+n) cap' e-(len+n))=grownCap w (len+n) cap' e by omega] at this
       ·have hup:∀j p,r j=some p->upd r k2 (w.heap.size,grownCap w (len+n) cap' e-(len+n)) j=some p:=fun j p hj=>by rw[Dk (by rintro rfl;rw[h0.fresh hn hB2] at hj;cases hj)];exact hj
        have:=Nz (P:=P) (x:=grownCap w (len+n) cap' e-(len+n)) hi ((ho2.app hl2).mono hup) hall (tl _)
        rw[Qw,<-List.append_toArray] at this
        exact this
      split at hb
      ·--a bounded part:it grows
       obtain⟨k2,s1,hn,e2⟩:=nb (s:=s) hb
       simp only[Prod.mk.injEq] at e2
       obtain⟨rfl,rfl⟩:=e2
       rcases hx with⟨e1,e2⟩|⟨e1,e2⟩
       ·subst e2
        exact grow s cap h hroom rfl k2 _ hB hn
       ·injection e1 with _ _ e1;cases e1
      ·rename_i q
       split at hb
       ·rename_i cs t' hg
        cases hc:(Nat.beq t' e&&Nat.beq cs.length (Nat.mul cap i.size)) with
        |false=>rw[hc] at hb;cases hb
        |true=>
         rw[hc] at hb
         simp only[cond_true] at hb
         simp only[Bool.and_eq_true] at hc
         have ht:=Nat.eq_of_beq_eq_true hc.1
         have hcl:cs.length=cap*i.size:=Nat.eq_of_beq_eq_true hc.2
         subst ht
         split at hb
         ·cases hb
         rename_i s1 hd
         obtain⟨k2,s2,hn,e2⟩:=nb (s:=s) hb
         simp only[Prod.mk.injEq] at e2
         obtain⟨rfl,rfl⟩:=e2
         rcases hx with⟨e1,e2⟩|⟨e1,e2⟩
         ·injection e1 with _ _ e1;cases e1
         ·subst e2
          rcases Nat.lt_or_ge (cap+x) (len+n) with hlt|hge
          ·have g0:=drop_ok (x:=x) (b:=b) h hd hg
           obtain⟨v',w',a1,r',a2,a3⟩:=grow s1 (cap+x) g0.rel hlt (by obtain⟨_,_,rfl⟩:=Jq hd;rfl) k2 _ hB hn
           exact⟨v',w',a1,r',a2,g0.trans a3⟩
          ·obtain⟨b',x',o',q1,q2,cur,rfl,q3,q4⟩:=h.obj _ _ hg
           rw[hr] at q1;injection q1 with q1;injection q1 with q1 q1';subst q1;subst q1'
           have hsz:(szB P t').getD 0=i.size:=by simp[szB,hi]
           rw[if_pos rfl,hsz,hcl] at q3
           have hmul:(cap+x)*i.size=cap*i.size+x*i.size:=Nat.add_mul _ _ _
           have hle:(len+n)*i.size<=(cap+x)*i.size:=Nat.mul_le_mul_right _ hge
           have hmul2:(len+n)*i.size=len*i.size+n*i.size:=Nat.add_mul _ _ _
           have hmul3:(cap+x)*i.size=(len+n)*i.size+(cap+x-(len+n))*i.size:=by rw[<-Nat.add_mul];congr 1;omega
           have hrun:=run_append_room w t ty t' i hu hi b len (cap+x) cur q2 ⟨bb,ob,none⟩ n cb' src' hsl hl3 hl4 hge (by omega)
           have holdeq:old'=cur.toList.take (len*i.size):=by
            apply List.ext_getElem?
            intro j
            by_cases hj:j<len*i.size
            ·have e1:old'[j]? =some (old'[j]'(by omega)):=by simp[hol,hj]
             have e2:=ho3 j _ e1
             rw[F8,cell_of_row w b (0+j) cur t' (0,0) q2] at e2
             rw[e1,List.getElem?_take,if_pos hj,<-e2]
             simp
            ·rw[List.getElem?_eq_none (by omega),List.getElem?_take,if_neg hj]
           obtain⟨_,hk,_⟩:=D4 hn
           have hk:k2=s.next:=by rw[hk];obtain⟨_,_,rfl⟩:=Jq hd;rfl
           have hfr:r k2=none:=(drop_ok (x:=x) (b:=b) h hd hg).rel.fresh hn hB
           have hup:∀j p,r j=some p->upd r k2 (b,cap+x-(len+n)) j=some p:=fun j p hj=>by rw[Dk (by rintro rfl;rw[hfr] at hj;cases hj)];exact hj
           refine⟨_,_,hrun,upd r k2 (b,cap+x-(len+n)),?_,move_ok h hB hd hn hg hr (Qg.row q2) ?_⟩
           ·have:=VR.so (r:=upd r k2 (b,cap+x-(len+n))) (off:=0) (n:=len+n) (c:=len+n) (Cg r k2 _)
            rwa [show len+n+(cap+x-(len+n))=cap+x by omega] at this
           ·have:=Nz (P:=P) (x:=cap+x-(len+n)) (tail:=cur.toList.drop (len*i.size+src'.length)) hi ((ho2.app hl2).mono hup) hall (by simp;omega)
            rw[holdeq] at this
            exact this
       ·cases hb
  ·rename_i a len cap n cb
   cases h0:(Nat.beq n 0&&Nat.ble len cap) with
   |false=>rw[h0] at hb;cases hb
   |true=>
    rw[h0] at hb
    injection hb with hb
    injection hb with e1 e2
    subst e1;subst e2
    simp only[Bool.and_eq_true,Nat.ble_eq] at h0
    have hn:=Nat.eq_of_beq_eq_true h0.1
    subst hn
    rw[hy.same rfl]
    cases a with
    |none=>
     rw[hx.same rfl]
     exact⟨_,_,by simp[Builtin.append_,run_underlying hu,Dz (show szB P e=some i.size by simp[szB,hi]),Builtin.lenOf,Builtin.firstCells,h0.2],r,.pln rfl,Dl.refl h⟩
    |some a=>
     have hx0:=hx
     obtain⟨k,off,b,x,hr,hx⟩:=hx.slc
     rcases hx with⟨e1,e2⟩|⟨e1,e2⟩<;>subst e2
     ·exact⟨_,_,by simp[Builtin.append_,run_underlying hu,Dz (show szB P e=some i.size by simp[szB,hi]),Builtin.lenOf,Builtin.firstCells,h0.2,storeCells],r,hx0,Dl.refl h⟩
     ·exact⟨_,_,by simp[Builtin.append_,run_underlying hu,Dz (show szB P e=some i.size by simp[szB,hi]),Builtin.lenOf,Builtin.firstCells,show len<=cap+x by omega,storeCells],r,hx0,Dl.refl h⟩
  ·cases hb
end
set_option maxRecDepth 100000
section
variable {P:Program} {B:Nat} {r:Rn} {s s':St} {w:World} {v:Value}
theorem LR.un1 {a:Value} {l':List Value} (h:LR r [a] l'):∃a',l'= [a']/\VR r a a':=by
 obtain⟨a',q,rfl,h1,h2⟩:=h.uncons
 rw[h2.nil'];exact⟨a',rfl,h1⟩
theorem LR.un2 {a b:Value} {l':List Value} (h:LR r [a,b] l'):∃a' b',l'= [a',b']/\VR r a a'/\VR r b b':=by
 obtain⟨a',q,rfl,h1,h2⟩:=h.uncons
 obtain⟨b',rfl,h3⟩:=h2.un1
 exact⟨a',b',rfl,h1,h3⟩
theorem VR.slen {a:Option Addr} {n c:Nat} {v':Value} (h:VR r (.slice a n c) v'):∃a' c',v'= .slice a' n c':=by
 cases a with
 |none=>exact⟨none,c,h.same rfl⟩
 |some a=>
  obtain⟨k,off,b,x,hr,h⟩:=h.slc
  rcases h with⟨_,rfl⟩|⟨_,rfl⟩<;>exact⟨_,_,rfl⟩
theorem VR.spt {a:Addr} {n c:Nat} {v':Value} (h:VR r (.slice (some a) n c) v'):∃b x c',r a.block=some (b,x)/\v'= .slice (some ⟨b,a.off,none⟩) n c':=by
 obtain⟨k,off,b,x,hr,h⟩:=h.slc
 rcases h with⟨rfl,rfl⟩|⟨rfl,rfl⟩<;>exact⟨_,_,_,hr,rfl⟩
theorem elemsz {t:TypeId} {sz:Nat} (h:(F4 P t).bind (szB P)=some sz):∃e,P.underlying t=some (.slice e)/\szB P e=some sz:=by
 cases e:F4 P t with
 |none=>rw[e] at h;cases h
 |some t'=>rw[e] at h;exact⟨t',Du e,h⟩
theorem Re {x:Sem Value} {v:Value} (h:pvp P x=some v):pv P x=some v/\pl v=true:=by
 unfold pvp at h
 split at h
 ·rename_i u hu
  cases hp:pl u with
  |false=>rw[hp] at h;cases h
  |true=>rw[hp] at h;injection h with h;subst h;exact⟨hu,hp⟩
 ·cases h
theorem bi_ok {b:Builtin} {tys:List TypeId} {type:TypeId} {args args':List Value} {consts:Array Bool} (h:Rel P B r s w) (hB:s'.next<=B) (hb:bi P b tys type args s=some (v,s')) (ha:LR r args args'):
  Ky P (Res P B s s' r w v) ((builtin b tys.toArray type consts args'.toArray).run P w):=by
 unfold bi at hb
 split at hb
 ·--len of a slice
  rename_i t q a n c
  cases he:F4 P t with
  |none=>rw[he] at hb;cases hb
  |some e=>
   rw[he] at hb
   injection hb with hb;injection hb with e1 e2;subst e1;subst e2
   obtain⟨a',rfl,hv⟩:=ha.un1
   obtain⟨p,c',rfl⟩:=hv.slen
   have e1:(builtin .len (t::q).toArray type consts [Value.slice p n c'].toArray).run P w= .ok (.value (.int .i64 n)) w:=by simp[builtin,Builtin.len_,run_underlying (Du he),goInt]
   rw[e1]
   exact⟨r,.pln rfl,Dl.refl h⟩
 ·rename_i sx
  simp only[Option.map_eq_some_iff,Prod.mk.injEq] at hb
  obtain⟨u,hp,rfl,rfl⟩:=hb
  obtain⟨hp,hu⟩:=Re hp
  obtain⟨a',rfl,hv⟩:=ha.un1
  rw[hv.str]
  have e1:(builtin .len tys.toArray type consts [Value.string sx].toArray).run P w= .ok (.value u) w:=by simp[builtin,M2 hp w]
  rw[e1]
  exact⟨r,.pln hu,Dl.refl h⟩
 ·rename_i t q n c
  cases he:F4 P t with
  |none=>rw[he] at hb;cases hb
  |some e=>
   rw[he] at hb
   injection hb with hb;injection hb with e1 e2;subst e1;subst e2
   obtain⟨a',rfl,hv⟩:=ha.un1
   rw[hv.same rfl]
   have e1:(builtin .cap (t::q).toArray type consts [Value.slice none n c].toArray).run P w= .ok (.value (.int .i64 c)) w:=by simp[builtin,Builtin.cap_,run_underlying (Du he),goInt]
   rw[e1]
   exact⟨r,.pln rfl,Dl.refl h⟩
 ·rename_i t q k off n c
  cases he:F4 P t with
  |none=>rw[he] at hb;cases hb
  |some e=>
   rw[he] at hb
   injection hb with hb;injection hb with e1 e2;subst e1;subst e2
   obtain⟨a',rfl,hv⟩:=ha.un1
   obtain⟨k',off',b,x,hr,hv⟩:=hv.slc
   rcases hv with⟨_,rfl⟩|⟨e1,rfl⟩
   ·have e1:(builtin .cap (t::q).toArray type consts [Value.slice (some ⟨b,off',none⟩) n c].toArray).run P w= .ok (.value (.int .i64 c)) w:=by simp[builtin,Builtin.cap_,run_underlying (Du he),goInt]
    rw[e1]
    exact⟨r,.pln rfl,Dl.refl h⟩
   ·injection e1 with _ _ e1;cases e1
 ·rename_i t u x y
  cases ht:Nat.beq t u with
  |false=>
   rw[ht] at hb
   simp only[cond_false] at hb
   split at hb
   ·rename_i kd n
    obtain⟨x',y',rfl,hx,hy⟩:=ha.un2
    rw[hy.int]
    obtain⟨v',w',h1,h2⟩:=appZ_ok (k:=kd) h hB hb hx type
    have e1:(builtin .append [t,u].toArray type consts [x',Value.int kd (n:Int)].toArray).run P w= .ok (.value v') w':=by simp[builtin,h1]
    rw[show ((Int.ofNat n:Int))=(n:Int) from rfl,e1]
    exact h2
   ·cases hb
  |true=>
   rw[ht] at hb
   have ht:=Nat.eq_of_beq_eq_true ht
   subst ht
   obtain⟨x',y',rfl,hx,hy⟩:=ha.un2
   obtain⟨v',w',h1,h2⟩:=appB_ok h hB hb hx hy type
   have e1:(builtin .append [t,t].toArray type consts [x',y'].toArray).run P w= .ok (.value v') w':=by simp[builtin,h1]
   rw[e1]
   exact h2
 ·rename_i t u a n c b m d
  cases ht:Nat.beq t u with
  |false=>rw[ht] at hb;cases hb
  |true=>
   rw[ht] at hb
   have ht:=Nat.eq_of_beq_eq_true ht
   subst ht
   simp only[cond_true] at hb
   obtain⟨x',y',rfl,hx,hy⟩:=ha.un2
   split at hb
   ·cases hb
   rename_i sz hsz
   obtain⟨e,hu,hse⟩:=elemsz hsz
   cases hm:Nat.beq (Nat.min m n) 0 with
   |true=>
    rw[hm] at hb
    injection hb with hb;injection hb with e1 e2;subst e1;subst e2
    have hm:Nat.min m n=0:=Nat.eq_of_beq_eq_true hm
    obtain⟨a',c',rfl⟩:=hx.slen
    obtain⟨b',d',rfl⟩:=hy.slen
    have hf:(Builtin.firstCells sz 0 (.slice b' m d')).run P w= .ok #[] w:=by cases b'<;>simp[Builtin.firstCells,loadCells,loadCellsFrom]
    have e1:(builtin .copy [t,t].toArray type consts [Value.slice a' n c',Value.slice b' m d'].toArray).run P w= .ok (.value (.int .i64 0)) w:=by
     cases a'<;>simp[builtin,Builtin.copy_,run_underlying hu,Builtin.lenOf,hm,Dz hse,hf,storeCells,goInt]
    rw[e1]
    exact⟨r,.pln rfl,Dl.refl h⟩
   |false=>
    rw[hm] at hb
    simp only[cond_false] at hb
    split at hb
    ·rename_i ka oa sa kb ob sb
     split at hb
     ·cases hb
     rename_i src hsrc
     simp only[Option.map_eq_some_iff,Prod.mk.injEq] at hb
     obtain⟨s1,hw,rfl,rfl⟩:=hb
     obtain⟨ba,xa,c',hra,rfl⟩:=hx.spt
     obtain⟨bb,xb,d',hrb,rfl⟩:=hy.spt
     obtain⟨hl1,src',hl2,hl3,hl4⟩:=Rd h hsrc hrb
     obtain⟨cur,t2,g1,g2,g3,_,g4⟩:=wr_ok h hw hra hl2
     have hl:=run_loadCells_list (P:=P) w ⟨bb,ob,none⟩ src' hl3
     rw[hl2.len,hl1] at hl
     have hst:=run_storeCells_at P ba oa t2 src' 0 cur w g1 (by simpa using g2) g3
     simp only[Nat.add_zero] at hst
     have e1:(builtin .copy [t,t].toArray type consts [Value.slice (some ⟨ba,oa,none⟩) n c',Value.slice (some ⟨bb,ob,none⟩) m d'].toArray).run P w= .ok (.value (.int .i64 (Nat.min m n:Nat))) (w.setRow ba (cur.toList.take oa++src'++cur.toList.drop (oa+src'.length)).toArray):=by
      have hl':(loadCells {block:=bb,off:=ob} ((m.min n)*sz)).run P w= .ok src'.toArray w:=hl
      simp only[builtin,Builtin.copy_,List.getElem?_toArray,List.getElem?_cons_zero,List.getElem?_cons_succ,Builtin.lenOf,Builtin.firstCells,Sem.run_bind,run_underlying hu,Sem.run_pure,Result.andThen_ok,Dz hse,hl',hst,goInt]
     rw[e1]
     exact⟨r,.pln rfl,g4⟩
    ·cases hb
 ·rename_i t q a n c
  obtain⟨x',rfl,hx⟩:=ha.un1
  cases hn:Nat.beq n 0 with
  |true=>
   rw[hn] at hb
   have hn:=Nat.eq_of_beq_eq_true hn
   subst hn
   cases he:F4 P t with
   |none=>rw[he] at hb;cases hb
   |some e=>
    rw[he] at hb
    injection hb with hb;injection hb with e1 e2;subst e1;subst e2
    obtain⟨a',c',rfl⟩:=hx.slen
    have e1:(builtin .clear (t::q).toArray type consts [Value.slice a' 0 c'].toArray).run P w= .ok (.value (.tuple #[])) w:=by
     cases a'<;>simp[builtin,Builtin.clear_,run_underlying (Du he)]
    rw[e1]
    exact⟨r,.pln rfl,Dl.refl h⟩
  |false=>
   rw[hn] at hb
   simp only[cond_false] at hb
   split at hb
   ·rename_i z k off sp hz
    simp only[Option.map_eq_some_iff,Prod.mk.injEq] at hb
    obtain⟨s1,hw,rfl,rfl⟩:=hb
    cases he:F4 P t with
    |none=>rw[he] at hz;cases hz
    |some e=>
     rw[he] at hz
     obtain⟨i,hi,hzz,hpz⟩:=Ed hz
     obtain⟨b,x,c',hr,rfl⟩:=hx.spt
     obtain⟨cur,t2,g1,g2,g3,_,g4⟩:=wr_ok h hw hr (LR.plain (La (Ny hpz) n))
     have hst:=run_storeCells_at P b off t2 (Gb n z.cells.toList) 0 cur w g1 (by simpa using g2) g3
     simp only[Nat.add_zero] at hst
     have hzc:(Builtin.zeroCells z.cells n).toList=Gb n z.cells.toList:=by
      have:=L9 z.cells n
      unfold madeCells at this
      unfold Builtin.zeroCells
      rw[this]
     have hn0:n≠0:=by rintro rfl;cases hn
     obtain⟨m,rfl⟩:=Nat.exists_eq_succ_of_ne_zero hn0
     have e1:(builtin .clear (t::q).toArray type consts [Value.slice (some ⟨b,off,none⟩) (m+1) c'].toArray).run P w= .ok (.value (.tuple #[])) (w.setRow b (cur.toList.take off++Gb (m+1) z.cells.toList++cur.toList.drop (off+(Gb (m+1) z.cells.toList).length)).toArray):=by
      simp only[builtin,Builtin.clear_,List.getElem?_toArray,List.getElem?_cons_zero,Sem.run_bind,run_underlying (Du he),Sem.run_pure,Result.andThen_ok,zeroValue,typeInfo,run_program,hi,hzz,hzc,hst]
     rw[e1]
     exact⟨r,.pln rfl,g4⟩
   ·cases hb
 ·cases hp:pls args with
  |false=>rw[hp] at hb;cases hb
  |true=>
   rw[hp] at hb
   simp only[cond_true,Option.map_eq_some_iff,Prod.mk.injEq] at hb
   obtain⟨u,hpv,rfl,rfl⟩:=hb
   rw[ha.same hp]
   obtain⟨hpv,hu⟩:=Re hpv
   have e1:(builtin .max tys.toArray type consts args.toArray).run P w= .ok (.value u) w:=by simp[builtin,M2 hpv w]
   rw[e1]
   exact⟨r,.pln hu,Dl.refl h⟩
 ·cases hp:pls args with
  |false=>rw[hp] at hb;cases hb
  |true=>
   rw[hp] at hb
   simp only[cond_true,Option.map_eq_some_iff,Prod.mk.injEq] at hb
   obtain⟨u,hpv,rfl,rfl⟩:=hb
   rw[ha.same hp]
   obtain⟨hpv,hu⟩:=Re hpv
   have e1:(builtin .min tys.toArray type consts args.toArray).run P w= .ok (.value u) w:=by simp[builtin,M2 hpv w]
   rw[e1]
   exact⟨r,.pln hu,Dl.refl h⟩
 ·cases hb
structure Km (P:Program) (R:Rec):Prop where
 call:∀f args s v s',R.call f args s=some (v,s')->∀B r w args',Rel P B r s w->s'.next<=B->LR r args args'->Ky P (Res P B s s' r w v) ((callFunc f args'.toArray).run P w)
 yield:∀l args s v s',R.yield l args s=some (v,s')->∀B r w args',Rel P B r s w->s'.next<=B->LR r args args'->∀b x,r l=some (b,x)->Ky P (Res P B s s' r w v) ((Instr.yield b args'.toArray).run P w)
theorem Zn {R:Rec} (hR:Km P R) {f f':Value} {args args':List Value} (h:Rel P B r s w) (hB:s'.next<=B) (hc:callV R f args s=some (v,s')) (hf:VR r f f') (ha:LR r args args'):
  Ky P (Res P B s s' r w v) ((do let d<-Deferred.ofValue f' args'.toArray;invoke d.target d.args).run P w):=by
 unfold callV at hc
 split at hc
 ·rename_i g first cap
  have hff:∃first' cap',f'= .func (.func g) first' cap'/\AR r first first'/\AR r cap cap':=by
   cases hf with
   |pln h=>
    refine⟨first,cap,rfl,?_⟩
    obtain⟨first⟩:=first;obtain⟨cap⟩:=cap
    cases first<;>cases cap<;>simp[pl] at h
    exact⟨LR.nil.arr,LR.nil.arr⟩
   |fn h1 h2 h3 h4=>exact⟨_,_,rfl,⟨h1,h2⟩,⟨h3,h4⟩⟩
  obtain⟨first',cap',rfl,h1,h2⟩:=hff
  have:=hR.call _ _ _ _ _ hc B r w _ h hB (h1.list.app (ha.app h2.list))
  have e:(first'.toList++(args'++cap'.toList)).toArray=first'++args'.toArray++cap':=by apply Array.ext';simp
  rw[e] at this
  simpa [Deferred.ofValue,invoke] using this
 ·rename_i l
  have hff:∃b x,f'= .func (.yield b) #[] #[]/\r l=some (b,x):=by
   cases hf with
   |pln h=>simp[pl] at h
   |yl h=>exact⟨_,_,rfl,h⟩
  obtain⟨b,x,rfl,hr⟩:=hff
  have:=hR.yield _ _ _ _ _ hc B r w _ h hB ha b x hr
  simpa [Deferred.ofValue,invoke] using this
 ·cases hc
theorem U7 {R:Rec} (hR:Km P R) {ρ ρ':Operand->Value} {o:Oper} (h:Rel P B r s w) (hB:s'.next<=B) (he:execH P R ρ o s=some (v,s')) (hρ:∀x∈o.op.operands,VR r (ρ x) (ρ' x)):Ky P (Res P B s s' r w v) ((execOp ρ' o).run P w):=by
 by_cases hc:∃c,o.op= .call c
 ·obtain⟨c,hop⟩:=hc
  have he2:=he
  unfold execH at he
  rw[hop] at he
  simp only at he
  have hargs:LR r (c.args.toList.map ρ) (c.args.toList.map ρ'):=mapR _ fun x hx=>hρ x (by simp only[hop,Op.operands,Call.operands,Array.mem_append];exact .inr (by simpa using hx))
  have earr:∀f:Operand->Value,(c.args.toList.map f).toArray=c.args.map f:=fun f=>by apply Array.ext';simp
  split at he
  ·rename_i b hb
   simp[execOp,hop,resolve,hb,invoke]
   rw[<-earr]
   exact bi_ok (tys:=c.argTypes.toList) h hB he hargs
  ·rename_i f hb
   have:=Zn hR h hB he (hρ f (by simp[hop,Op.operands,Call.operands,hb])) hargs
   rw[earr] at this
   simpa [execOp,hop,resolve,hb] using this
  ·cases he
 ·exact execH_ok h hB he hρ fun c hop=>hc ⟨c,hop⟩
theorem exec_ok {R:Rec} (hR:Km P R) {ρ ρ':Operand->Value} {o:Oper} (h:Rel P B r s w) (hB:s'.next<=B) (he:exec P R ρ o s=some (v,s')) (hρ:∀x∈o.op.operands,VR r (ρ x) (ρ' x)):Ky P (Res P B s s' r w v) ((execOp ρ' o).run P w):=by
 unfold exec at he
 cases hp:Mn o with
 |true=>
  rw[hp] at he
  simp only[cond_true,Option.map_eq_some_iff,Prod.mk.injEq] at he
  obtain⟨u,he,rfl,rfl⟩:=he
  obtain⟨v',h1,h2⟩:=Zi he hρ
  rw[h2 w]
  exact⟨r,h1,Dl.refl h⟩
 |false=>
  rw[hp] at he
  exact U7 hR h hB he hρ
end
end Go.Proofs.YtdeghcgakkhbmaaGreat
