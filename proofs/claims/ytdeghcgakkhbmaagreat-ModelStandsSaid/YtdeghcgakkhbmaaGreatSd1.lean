/- Parts of the proof that follows. No condition. -/
import Derived.IntWalk
import Derived.Test.YtdeghcgakkhbmaaGreatChecked
import Derived.StillTail
import Derived.Below
import Derived.KernelRfl
import Derived.Laws.World
import Derived.Tactics
import Derived.ScopeJumps
import Derived.WalkMore
import Derived.WalkKit
import Derived.Test.YtdeghcgakkhbmaaGreatProg
import Derived.WalkSpells
import Derived.WalkLawsBesides
import Derived.Lib.Mul64
import Derived.Laws.MathBits
import Derived.Lib.Hide
import Derived.Deep.DeepCutAuto
import Derived.Deep.CutBlock
import Derived.BigQuiet
set_option maxRecDepth 100000
set_option maxHeartbeats 8000000
set_option linter.unusedSimpArgs false
set_option linter.unusedVariables false
namespace Go.Proofs.YtdeghcgakkhbmaaGreat
open Go.RowKit
instance intValue : Coe Int Value := ⟨fun x => Value.int .i64 x⟩
abbrev Cb (f : FuncId) (x : Array Value) (w : World) (v : Value) : Prop := Calls Tryz.prog f x w fun e w' => e = .returned v /\ Below w.heap.size w w'
theorem Hd {p : Prop} (h : p) : Hid p := Lib.hid h
abbrev iw := @IntWalk.i64_left
theorem nS : (∀ (a : Act) (d : Tmp) (v : Value), Act.put a (some d) v = { a with tmps := a.tmps.setIfInBounds d v }) ∧ (∀ (a : Act) (v : Value), Act.put a none v = a) ∧ (∀ (l : List Value) (i : Nat) (a : Value), l.toArray.setIfInBounds i a = (l.set i a).toArray) ∧
    (∀ (a b : Value) (l : List Value), (a :: l).set 0 b = b :: l) ∧ (∀ (a b : Value) (l : List Value) (i : Nat), (a :: l).set (i + 1) b = a :: l.set i b) ∧ (∀ (a : Oper) (l : List Oper) (i : Nat), (a :: l).drop (i + 1) = l.drop i) ∧ (∀ l : List Oper, l.drop 0 = l) :=
  ⟨fun _ _ _ => rfl, fun _ _ => rfl, fun _ _ _ => List.setIfInBounds_toArray .., fun _ _ _ => rfl, fun _ _ _ _ => rfl, fun _ _ _ => rfl, fun _ => rfl⟩
abbrev Bi:=Value->World->Prop
structure Rex (L:List Nat) (w w':World):Prop where
 os:w'.os=w.os
 tape:w'.tape=w.tape
 output:w'.output=w.output
 size:w.heap.size<=w'.heap.size
 block:∀k,k<w.heap.size->k∉L->w'.heap[k]? =w.heap[k]?
 shape:∀k,k∈L->∀c t f,w.heap[k]? =some (.cells c t f)->∃c',c'.size=c.size/\w'.heap[k]? =some (.cells c' t f)
theorem Di {w:World} {k:Nat} {o:Obj} (h:w.heap[k]? =some o):k<w.heap.size:=(Array.getElem?_eq_some_iff.1 h).1
theorem Rex.refl (L:List Nat) (w:World):Rex L w w:=⟨rfl,rfl,rfl,Nat.le_refl _,fun _ _ _=>rfl,fun _ _ c _ _ h=>⟨c,rfl,h⟩⟩
theorem Rex.trans {L:List Nat} {a b c:World} (h:Rex L a b) (k:Rex L b c):Rex L a c:=
 ⟨k.os.trans h.os,k.tape.trans h.tape,k.output.trans h.output,Nat.le_trans h.size k.size,fun i hi hl=>(k.block i (Nat.lt_of_lt_of_le hi h.size) hl).trans (h.block i hi hl),fun i hi c t f hc=>by
  obtain⟨c1,e1,h1⟩:=h.shape i hi c t f hc
  obtain⟨c2,e2,h2⟩:=k.shape i hi c1 t f h1
  exact⟨c2,e2.trans e1,h2⟩⟩
theorem Rex.more {L L':List Nat} {a b:World} (h:Rex L a b) (hs:∀x,x∈L->x∈L'):Rex L' a b:=
 ⟨h.os,h.tape,h.output,h.size,fun i hi hl=>h.block i hi fun hx=>hl (hs _ hx),fun i _ c t f hc=>by
  by_cases hi:i∈L
  ·exact h.shape i hi c t f hc
  ·exact⟨c,rfl,(h.block i (Di hc) hi).trans hc⟩⟩
theorem Rex.of_below {L:List Nat} {a b:World} (h:Below a.heap.size a b):Rex L a b:=⟨h.os,h.tape,h.output,h.size,fun k hk _=>h.block k hk,fun k _ c _ _ hc=>⟨c,rfl,(h.block k (Di hc)).trans hc⟩⟩
theorem Rex.below {a b:World} (h:Rex [] a b):Below a.heap.size a b:=⟨h.os,h.tape,h.output,h.size,fun k hk=>h.block k hk (by simp)⟩
theorem Rex.of_priv {L:List Nat} {B:Nat} {w w':World} (h:Rex L w w') (hB:B<=w.heap.size) (hL:∀x,x∈L->B<=x:=by simp<;>omega):Below B w w':=
 ⟨h.os,h.tape,h.output,h.size,fun k hk=>h.block k (by omega) fun hx=>by have:=hL k hx;omega⟩
theorem Rex.drew {L:List Nat} {w w':World} (h:Rex L w w'):Rex L w w'.drew:=⟨h.os,h.tape,h.output,h.size,h.block,h.shape⟩
def Au (o:Oper):Bool:=match o.op with| .alloc _=>true| .box _ _=>true|_=>false
def NewPtr (w w':World) (u:Value):Prop:=∃b,u= .pointer (some ⟨b,0,none⟩)/\w.heap.size<=b/\b<w'.heap.size
def Ml (P:Program) (o:Oper) (L:List Nat) (Φ:Bi) (w:World):Result Next->Prop
 | .ok (.value u) w'=>Rex L w w'/\Φ u w'/\(Au o=true->NewPtr w w' u)
 | .ok .skip w'=>Rex L w w'/\Φ undef w'/\Au o=false
 | .ok (.enter f args) w'=>w'=w/\Au o=false/\Calls P f args w (fun e w''=>∃u,e= .returned u/\Rex L w w''/\Φ u w'')
 |_=>False
def Fi (X:List (Nat×Nat)) (i:Nat):List Nat:=(X.filter fun p=>p.1==i).map (·.2)
def Bn (X:List (Nat×Nat)) (i:Nat):List Nat:=(X.filter fun p=>p.1 !=i).map (·.2)
theorem Ri {X:List (Nat×Nat)} {i j:Nat} (h:i≠j):∀x,x∈Fi X i->x∈Bn X j:=by
 intro x hx
 simp only[Fi,Bn,List.mem_map,List.mem_filter] at hx⊢
 obtain⟨p,⟨hp,hi⟩,rfl⟩:=hx
 refine⟨p,⟨hp,?_⟩,rfl⟩
 have:p.1=i:=by simpa using hi
 simp[this,h]
theorem Yk {X:List (Nat×Nat)} {i:Nat}:∀x,x∈Fi X i->x∈X.map (·.2):=by
 intro x hx
 simp only[Fi,List.mem_map,List.mem_filter] at hx⊢
 obtain⟨p,⟨hp,_⟩,rfl⟩:=hx
 exact⟨p,hp,rfl⟩
def A9 (L:List Nat) (Φ:Bi):Prop:=∀v w w',Rex L w w'->Φ v w->Φ v w'
def Rp (P:Program) (ops:Array Oper) (C:World->Prop) (L:List Nat) (E:Tmp->Bi) (o:Oper) (Φ:Bi):Prop:=
 ∀(a:Act) (w:World),C w->(∀s∈o.looksAt ops,E s (a.tmps.getD s undef) w)->
  (Region.wanted o (yielded ops a.tmps)=true->Ml P o L Φ w ((execOp a.eval o).run P w))/\(Region.wanted o (yielded ops a.tmps)=false->Φ undef w)
def Af (a0:Act) (acc:List (Option Tmp×Bi)) (s:Tmp):Bi:=
 match acc.find? (fun p=>p.1==some s) with
 |some p=>p.2
 |none=>fun v _=>v=a0.tmps.getD s undef
def Ao (P:Program) (ops:Array Oper) (C:World->Prop) (X:List (Nat×Nat)) (a0:Act) (Fin:List (Option Tmp×Bi)->Prop):Nat->List Oper->List (Option Tmp×Bi)->Prop
 |_,[],acc=>Fin acc
 |i,o::rest,acc=>∃Φ:Bi,A9 (Bn X i) Φ/\Rp P ops C (Fi X i) (Af a0 acc) o Φ/\Ao P ops C X a0 Fin (i+1) rest ((o.dst,Φ)::acc)
def A6 (w:World) (a0:Act):List (Option Tmp×Bi)->(Act->Prop)->Prop
 | [],K=>K a0
 |(d,Φ)::r,K=>A6 w a0 r (fun a=>∀v,Φ v w->K (a.put d v))
def Cz (l:List Oper):List Tmp:=l.filterMap fun o=>if Au o then o.dst else none
def Gs (ds:List Tmp) (a:Act):Prop:=∀d d',d∈ds->d'∈ds->d≠d'->∀x,a.tmps.getD d undef= .pointer (some x)->a.tmps.getD d' undef≠ .pointer (some x)
/-! ### The check of a region, by the kernel -/
def Qe (ops:Array Oper) (i j:Nat):Bool:=match ops[i]? with|some o=>o.after.any fun e=>Region.binds .any e&&e.on==j|none=>false
def Z8 (ops:Array Oper):Nat->Nat->Nat->Bool
 |0,_,_=>false
 |f+1,i,j=>match ops[i]? with|some o=>o.after.any fun e=>Region.binds .any e&&(e.on==j||Z8 ops f e.on j)|none=>false
def Fz (o:Oper):Bool:=match o.op with| .move _=>true| .assign _=>true| .extract _ _=>true|_=>false
def Bf (ops:Array Oper) (i:Nat):Option Tmp:=(ops[i]?).bind (·.dst)
def backB (ops:Array Oper):Bool:=(List.range ops.size).all fun i=>match ops[i]? with|some o=>o.after.all fun e=> !Region.binds .any e||decide (e.on<i)|none=>true
def uniqB (ops:Array Oper) (n:Nat):Bool:=(List.range n).all fun i=>(List.range n).all fun j=>i==j||(Bf ops i).isNone||Bf ops i !=Bf ops j
def readsB (ops:Array Oper) (n:Nat):Bool:=(List.range n).all fun i=>match ops[i]? with
 |some o=>(o.looksAt ops).all fun s=>(List.range n).all fun j=>Bf ops j !=some s||(if j<i then Qe ops i j else if i<j then Qe ops j i else true)
 |none=>true
def lateB (ops:Array Oper) (n:Nat):Bool:=(List.range n).all fun i=>match ops[i]? with
 |some o=>if Fz o then (List.range ops.size).all fun j=>decide (j<=i)||Qe ops j i||(match ops[j]? with|some oj=>o.apart ops oj|none=>true)
   else (List.range ops.size).all fun t=>decide (t<n)||Z8 ops 8 t i
 |none=>true
def Nt (ops:Array Oper) (n:Nat):Bool:=Region.seqB .any ops (ops.size-n) n ((Array.replicate n true)++Array.replicate (ops.size-n) false)
def sizeB (ops:Array Oper) (n m:Nat):Bool:=(List.range n).all fun i=>match Bf ops i with|some d=>decide (d<m)|none=>true
def okB (ops:Array Oper) (n m:Nat):Bool:=decide (n<=ops.size)&&Region.noSelect ops&&backB ops&&uniqB ops n&&readsB ops n&&lateB ops n&&Nt ops n&&sizeB ops n m
/-! ### The proof -/
section
variable {P:Program} {ops:Array Oper} {C:World->Prop} {X:List (Nat×Nat)} {a0:Act} {n:Nat} {Q:Exit->Act->World->Prop}
def Ds (ops:Array Oper) (Ψ:Nat->Bi):Nat->List (Option Tmp×Bi)
 |0=> []
 |k+1=>(Bf ops k,Ψ k)::Ds ops Ψ k
theorem Jg {Ψ Ψ':Nat->Bi}:∀k,(∀i,i<k->Ψ i=Ψ' i)->Ds ops Ψ k=Ds ops Ψ' k
 |0,_=>rfl
 |k+1,h=>by
  simp only[Ds]
  rw[h k (by omega),Jg k fun i hi=>h i (by omega)]
theorem O2 {Fin:List (Option Tmp×Bi)->Prop}:∀(l:List Oper) (k:Nat) (acc:List (Option Tmp×Bi)) (Ψ0:Nat->Bi),(∀j,j<l.length->l[j]? =ops[k+j]?)->acc=Ds ops Ψ0 k->
  Ao P ops C X a0 Fin k l acc->∃Ψ:Nat->Bi,(∀i,i<k->Ψ i=Ψ0 i)/\
   (∀i,k<=i->i<k+l.length->A9 (Bn X i) (Ψ i)/\∃o,ops[i]? =some o/\Rp P ops C (Fi X i) (Af a0 (Ds ops Ψ i)) o (Ψ i))/\Fin (Ds ops Ψ (k+l.length))
 | [],k,acc,Ψ0,_,ha,h=>⟨Ψ0,fun _ _=>rfl,fun i h1 h2=>absurd h2 (by simp;omega),by simpa [ha,Ao] using h⟩
 |o::l,k,acc,Ψ0,hl,ha,h=>by
  obtain⟨Φ,hc,ho,hr⟩:=h
  have h0:ops[k]? =some o:=by simpa using (hl 0 (by simp)).symm
  let Ψ1:Nat->Bi:=fun i=>if i=k then Φ else Ψ0 i
  have h1:∀i,i<k->Ψ1 i=Ψ0 i:=fun i hi=>by simp only[Ψ1];rw[if_neg (by omega)]
  have hk:Ψ1 k=Φ:=by simp[Ψ1]
  obtain⟨Ψ,e1,e2,e3⟩:=O2 l (k+1) ((o.dst,Φ)::acc) Ψ1 (fun j hj=>by have:=hl (j+1) (by simpa using hj);simpa [Nat.add_assoc,Nat.add_comm 1 j] using this)
   (by simp only[Ds];rw[hk,ha,Jg k h1];simp[Bf,h0]) hr
  refine⟨Ψ,fun i hi=>(e1 i (by omega)).trans (h1 i hi),fun i hi1 hi2=> ?_,by simpa [Nat.add_assoc,Nat.add_comm 1] using e3⟩
  by_cases hik:i=k
  ·subst hik
   have hΨ:Ψ i=Φ:=(e1 i (by omega)).trans hk
   refine⟨by rw[hΨ];exact hc,o,h0,?_⟩
   rw[hΨ,Jg i fun j hj=>(e1 j (by omega)).trans (h1 j hj),<-ha]
   exact ho
  ·exact e2 i (by omega) (by simp only[List.length_cons] at hi2;omega)
theorem env_acc (Ψ:Nat->Bi) (s:Tmp):∀k,(∃j,j<k/\Bf ops j=some s/\Af a0 (Ds ops Ψ k) s=Ψ j)∨
  ((∀j,j<k->Bf ops j≠some s)/\Af a0 (Ds ops Ψ k) s=fun v _=>v=a0.tmps.getD s undef)
 |0=> .inr ⟨fun j hj=>by omega,rfl⟩
 |k+1=>by
  by_cases hk:Bf ops k=some s
  ·refine .inl ⟨k,by omega,hk,?_⟩
   simp[Af,Ds,hk]
  ·have hfind:Af a0 (Ds ops Ψ (k+1)) s=Af a0 (Ds ops Ψ k) s:=by
    have:(Bf ops k==some s)=false:=by simpa using hk
    simp[Af,Ds,this]
   rcases env_acc Ψ s k with⟨j,hj,hw,he⟩|⟨hn,he⟩
   ·exact .inl ⟨j,by omega,hw,hfind.trans he⟩
   ·refine .inr ⟨fun j hj=> ?_,hfind.trans he⟩
    by_cases hjk:j=k
    ·subst hjk;exact hk
    ·exact hn j (by omega)
theorem Fu {a:Act} {d s:Tmp} {v:Value} (h:d≠s):(a.put (some d) v).tmps.getD s undef=a.tmps.getD s undef:=by
 simp[Act.put,Array.getElem?_setIfInBounds_ne h]
theorem Gw {a:Act} {d:Tmp} {v:Value} (h:d<a.tmps.size):(a.put (some d) v).tmps.getD d undef=v:=by
 simp[Act.put,h]
structure Inv (ops:Array Oper) (C:World->Prop) (a0:Act) (n:Nat) (Ψ:Nat->Bi) (listed:Array Bool) (a:Act) (w:World):Prop where
 c:C w
 size:a.tmps.size=a0.tmps.size
 defers:a.defers=a0.defers
 lsize:listed.size=ops.size
 down:∀i o,ops[i]? =some o->listed.getD i false=true->∀e∈o.after,Region.binds .any e=true->listed.getD e.on false=true
 val:∀i,i<n->listed.getD i false=true->∀d,Bf ops i=some d->Ψ i (a.tmps.getD d undef) w
 eff:∀i,i<n->listed.getD i false=true->Bf ops i=none->∃u,Ψ i u w
 old:∀s,(∀i,i<n->listed.getD i false=true->Bf ops i≠some s)->a.tmps.getD s undef=a0.tmps.getD s undef
 new:∀i o d,i<n->listed.getD i false=true->ops[i]? =some o->Au o=true->o.dst=some d->∀x,a.tmps.getD d undef= .pointer (some x)->x.block<w.heap.size
 apart:∀i o d j o' d',i<n->j<n->i≠j->listed.getD i false=true->listed.getD j false=true->ops[i]? =some o->ops[j]? =some o'->Au o=true->Au o'=true->
  o.dst=some d->o'.dst=some d'->∀x,a.tmps.getD d undef= .pointer (some x)->a.tmps.getD d' undef≠ .pointer (some x)
structure Ok (ops:Array Oper) (n m:Nat):Prop where
 le:n<=ops.size
 nosel:Region.noSelect ops=true
 back:∀i o,ops[i]? =some o->∀e∈o.after,Region.binds .any e=true->e.on<i
 uniq:∀i j d,i<n->j<n->Bf ops i=some d->Bf ops j=some d->i=j
 reads:∀i o s j,i<n->ops[i]? =some o->s∈o.looksAt ops->j<n->Bf ops j=some s->(j<i->Qe ops i j=true)/\(i<j->Qe ops j i=true)
 late:∀i o,i<n->ops[i]? =some o->(Fz o=true/\∀j oj,ops[j]? =some oj->i<j->Qe ops j i=false->o.apart ops oj=true)∨(Fz o=false/\∀t,n<=t->t<ops.size->Z8 ops 8 t i=true)
 seq:Nt ops n=true
 dst:∀i d,i<n->Bf ops i=some d->d<m
theorem Ur {m:Nat} (h:okB ops n m=true):Ok ops n m:=by
 simp only[okB,Bool.and_eq_true,decide_eq_true_eq] at h
 obtain⟨⟨⟨⟨⟨⟨⟨h1,h2⟩,h3⟩,h4⟩,h5⟩,h6⟩,h7⟩,h8⟩:=h
 refine⟨h1,h2,?_,?_,?_,?_,h7,?_⟩
 ·intro i o ho e he hb
  have:=List.all_eq_true.1 h3 i (List.mem_range.2 (Array.getElem?_eq_some_iff.1 ho).1)
  simp only[ho] at this
  have:=Array.all_eq_true_iff_forall_mem.1 this e he
  simpa [hb] using this
 ·intro i j d hi hj h1 h2
  have:=List.all_eq_true.1 (List.all_eq_true.1 h4 i (List.mem_range.2 hi)) j (List.mem_range.2 hj)
  simpa [h1,h2] using this
 ·intro i o s j hi ho hs hj hw
  have:=List.all_eq_true.1 h5 i (List.mem_range.2 hi)
  simp only[ho] at this
  have:=List.all_eq_true.1 (List.all_eq_true.1 this s hs) j (List.mem_range.2 hj)
  simp only[hw,bne_self_eq_false,Bool.false_or] at this
  refine⟨fun hlt=>by simpa [hlt] using this,fun hlt=> ?_⟩
  rw[if_neg (by omega),if_pos hlt] at this
  exact this
 ·intro i o hi ho
  have:=List.all_eq_true.1 h6 i (List.mem_range.2 hi)
  simp only[ho] at this
  by_cases hp:Fz o=true
  ·refine .inl ⟨hp,fun j oj hj hlt hd=> ?_⟩
   simp only[hp,if_true] at this
   have:=List.all_eq_true.1 this j (List.mem_range.2 (Array.getElem?_eq_some_iff.1 hj).1)
   simpa [hj,hd,Nat.not_le.2 hlt] using this
  ·have hp':Fz o=false:=by simpa using hp
   refine .inr ⟨hp',fun t h1 h2=> ?_⟩
   simp only[hp',Bool.false_eq_true,if_false] at this
   have:=List.all_eq_true.1 this t (List.mem_range.2 h2)
   simpa [Nat.not_lt.2 h1] using this
 ·intro i d hi hd
  have:=List.all_eq_true.1 h8 i (List.mem_range.2 hi)
  simpa [hd] using this
theorem Co {listed:Array Bool} {i:Nat} (hi:i<listed.size) (h:listed.getD i true=false):listed.getD i false=false:=by
 simp[hi] at h⊢;exact h
theorem Mb {m i:Nat} {o:Oper} {Ψ:Nat->Bi} {listed:Array Bool} {a:Act} {w w':World} {u:Value} (hok:Ok ops n m) (hm:m=a0.tmps.size) (hC:∀w w',C w->Rex (X.map (·.2)) w w'->C w')
  (hcl:∀i,i<n->A9 (Bn X i) (Ψ i)) (inv:Inv ops C a0 n Ψ listed a w) (hr:i∈Region.ready .any ops listed) (hi:i<n) (ho:ops[i]? =some o)
  (hR:Rex (Fi X i) w w') (hΨ:Ψ i u w') (hnew:Au o=true->u=undef∨NewPtr w w' u):Inv ops C a0 n Ψ (listed.setIfInBounds i true) (a.put o.dst u) w':=by
 obtain⟨hun,o',ho',hall⟩:=mem_ready.1 hr
 obtain rfl:o'=o:=by rw[ho] at ho';injection ho' with h;exact h.symm
 have hil:i<listed.size:=by rw[inv.lsize];exact(Array.getElem?_eq_some_iff.1 ho).1
 have hwi:Bf ops i=o'.dst:=by simp[Bf,ho]
 have hset:∀j,(listed.setIfInBounds i true).getD j false=true->j=i∨listed.getD j false=true:=by
  intro j hj
  by_cases hji:j=i
  ·exact .inl hji
  ·exact .inr (by rwa [getD_set_ne false (Ne.symm hji)] at hj)
 have hdsz:∀d,o'.dst=some d->d<a.tmps.size:=fun d hd=>by rw[inv.size,<-hm];exact hok.dst i d hi (by rw[hwi,hd])
 have hkeep:∀s,o'.dst≠some s->(a.put o'.dst u).tmps.getD s undef=a.tmps.getD s undef:=by
  intro s hs
  cases hd:o'.dst with
  |none=>rfl
  |some d=>exact Fu (fun e=>hs (by rw[hd,e]))
 have hput:∀d,o'.dst=some d->(a.put o'.dst u).tmps.getD d undef=u:=by
  intro d hd
  rw[hd]
  exact Gw (hdsz d hd)
 have hclosed:∀j,j<n->j≠i->∀v,Ψ j v w->Ψ j v w':=fun j hj hji v hv=>hcl j hj v w w' (hR.more (Ri (Ne.symm hji))) hv
 have hother:∀j,j<n->j≠i->∀d,Bf ops j=some d->o'.dst≠some d:=fun j hj hji d hd e=>hji (hok.uniq j i d hj hi hd (by rw[hwi,e]))
 refine⟨hC _ _ inv.c (hR.more Yk),?_,?_,by simp[inv.lsize],?_,?_,?_,?_,?_,?_⟩
 ·cases hd:o'.dst<;>simp[Act.put,inv.size]
 ·cases hd:o'.dst<;>simp[Act.put,inv.defers]
 ·intro j oj hj hl e he hb
  rcases hset j hl with rfl|hl
  ·have:oj=o':=by rw[ho] at hj;injection hj with h;exact h.symm
   subst this
   exact getD_set_true (hall e he hb)
  ·exact getD_set_true (inv.down j oj hj hl e he hb)
 ·intro j hj hl d hd
  by_cases hji:j=i
  ·subst hji
   rw[hput d (by rw[<-hwi,hd])]
   exact hΨ
  ·rw[hkeep d (hother j hj hji d hd)]
   exact hclosed j hj hji _ (inv.val j hj ((hset j hl).resolve_left hji) d hd)
 ·intro j hj hl hd
  by_cases hji:j=i
  ·subst hji;exact⟨u,hΨ⟩
  ·obtain⟨u',hu'⟩:=inv.eff j hj ((hset j hl).resolve_left hji) hd
   exact⟨u',hclosed j hj hji _ hu'⟩
 ·intro s hs
  have h1:o'.dst≠some s:=by
   have:=hs i hi (by simp[hil])
   rwa [hwi] at this
  rw[hkeep s h1]
  exact inv.old s fun j hj hl=>hs j hj (getD_set_true hl)
 ·intro j oj d hj hl hoj hal hd x hx
  by_cases hji:j=i
  ·subst hji
   have:oj=o':=by rw[ho] at hoj;injection hoj with h;exact h.symm
   subst this
   rw[hput d hd] at hx
   rcases hnew hal with h|⟨b,h,_,hb⟩
   ·rw[h] at hx;simp[undef] at hx
   ·rw[h] at hx;injection hx with hx;injection hx with hx;subst hx;exact hb
  ·have hne:=hother j hj hji d (by simp[Bf,hoj,hd])
   rw[hkeep d hne] at hx
   exact Nat.lt_of_lt_of_le (inv.new j oj d hj ((hset j hl).resolve_left hji) hoj hal hd x hx) hR.size
 ·intro j oj d k ok d' hj hk hjk hlj hlk hoj hok' haj hak hd hd' x hx hx'
  by_cases hji:j=i
  ·subst hji
   have:oj=o':=by rw[ho] at hoj;injection hoj with h;exact h.symm
   subst this
   rw[hput d hd] at hx
   have hne:=hother k hk (Ne.symm hjk) d' (by simp[Bf,hok',hd'])
   rw[hkeep d' hne] at hx'
   have h2:=inv.new k ok d' hk ((hset k hlk).resolve_left (Ne.symm hjk)) hok' hak hd' x hx'
   rcases hnew haj with h|⟨b,h,hb,_⟩
   ·rw[h] at hx;simp[undef] at hx
   ·rw[h] at hx;injection hx with hx;injection hx with hx;subst hx;simp at h2;omega
  ·by_cases hki:k=i
   ·subst hki
    have:ok=o':=by rw[ho] at hok';injection hok' with h;exact h.symm
    subst this
    rw[hput d' hd'] at hx'
    have hne:=hother j hj hji d (by simp[Bf,hoj,hd])
    rw[hkeep d hne] at hx
    have h2:=inv.new j oj d hj ((hset j hlj).resolve_left hji) hoj haj hd x hx
    rcases hnew hak with h|⟨b,h,hb,_⟩
    ·rw[h] at hx';simp[undef] at hx'
    ·rw[h] at hx';injection hx' with hx';injection hx' with hx';subst hx';simp at h2;omega
   ·have hne:=hother j hj hji d (by simp[Bf,hoj,hd])
    have hne':=hother k hk hki d' (by simp[Bf,hok',hd'])
    rw[hkeep d hne] at hx
    rw[hkeep d' hne'] at hx'
    exact inv.apart j oj d k ok d' hj hk hjk ((hset j hlj).resolve_left hji) ((hset k hlk).resolve_left hki) hoj hok' haj hak hd hd' x hx hx'
theorem Qr {m i:Nat} {o:Oper} {Ψ:Nat->Bi} {listed:Array Bool} {a:Act} {w:World} (hok:Ok ops n m) (inv:Inv ops C a0 n Ψ listed a w) (hr:i∈Region.ready .any ops listed) (hi:i<n) (ho:ops[i]? =some o):
  ∀s∈o.looksAt ops,Af a0 (Ds ops Ψ i) s (a.tmps.getD s undef) w:=by
 obtain⟨hun,o',ho',hall⟩:=mem_ready.1 hr
 obtain rfl:o'=o:=by rw[ho] at ho';injection ho' with h;exact h.symm
 have hil:i<listed.size:=by rw[inv.lsize];exact(Array.getElem?_eq_some_iff.1 ho).1
 have hun':=Co hil hun
 intro s hs
 rcases env_acc (ops:=ops) (a0:=a0) Ψ s i with⟨j,hj,hw,he⟩|⟨hn,he⟩
 ·rw[he]
  have hd:=(hok.reads i o' s j hi ho hs (by omega) hw).1 hj
  simp only[Qe,ho] at hd
  obtain⟨e,hem,hb⟩:=Array.any_eq_true'.1 hd
  simp only[Bool.and_eq_true,beq_iff_eq] at hb
  have hl:=hall e hem hb.1
  rw[hb.2] at hl
  exact inv.val j (by omega) hl s hw
 ·rw[he]
  refine inv.old s fun j hj hl hw=> ?_
  rcases Nat.lt_trichotomy j i with h|h|h
  ·exact hn j h hw
  ·subst h;rw[hun'] at hl;cases hl
  ·have hd:=(hok.reads i o' s j hi ho hs hj hw).2 h
   unfold Qe at hd
   cases hoj:ops[j]? with
   |none=>rw[hoj] at hd;cases hd
   |some oj=>
    rw[hoj] at hd
    obtain⟨e,hem,hb⟩:=Array.any_eq_true'.1 hd
    simp only[Bool.and_eq_true,beq_iff_eq] at hb
    have:=inv.down j oj hoj hl e hem hb.1
    rw[hb.2,hun'] at this
    cases this
theorem inv_step {m i:Nat} {Ψ:Nat->Bi} {listed:Array Bool} {a:Act} {w:World} (hok:Ok ops n m) (hm:m=a0.tmps.size) (hC:∀w w',C w->Rex (X.map (·.2)) w w'->C w')
  (hcl:∀i,i<n->A9 (Bn X i) (Ψ i)) (hop:∀i o,i<n->ops[i]? =some o->Rp P ops C (Fi X i) (Af a0 (Ds ops Ψ i)) o (Ψ i))
  (inv:Inv ops C a0 n Ψ listed a w) (hr:i∈Region.ready .any ops listed) (hi:i<n):
  wpOp P ops Q i (Inv ops C a0 n Ψ (listed.setIfInBounds i true)) a w:=by
 obtain⟨_,o,ho,_⟩:=mem_ready.1 hr
 obtain⟨h1,h2⟩:=hop i o hi ho a w inv.c (Qr hok inv hr hi ho)
 unfold wpOp
 simp only[ho]
 by_cases hw:Region.wanted o (yielded ops a.tmps)=true
 ·simp only[hw,if_true]
  refine .inl ?_
  have h1:=h1 hw
  unfold Oper.wp
  generalize (execOp a.eval o).run P w=r at h1
  cases r with
  |ok x w'=>
   cases x<;>simp only[Ml] at h1<;>simp only[Oper.upon]
   case value u=>exact Mb hok hm hC hcl inv hr hi ho h1.1 h1.2.1 fun ha=> .inr (h1.2.2 ha)
   case skip=>exact Mb hok hm hC hcl inv hr hi ho h1.1 h1.2.1 fun ha=>by rw[h1.2.2] at ha;cases ha
   case enter f args=>
    obtain⟨rfl,hna,hc⟩:=h1
    refine hc.mono fun e w'' ⟨u,he,hR,hΦ⟩=> ?_
    subst he
    exact Mb hok hm hC hcl inv hr hi ho hR hΦ fun ha=>by rw[hna] at ha;cases ha
  |halt x w'=>simp only[Ml] at h1
 ·have hw':Region.wanted o (yielded ops a.tmps)=false:=by simpa using hw
  simp only[hw',Bool.false_eq_true,if_false]
  exact Mb hok hm hC hcl inv hr hi ho (Rex.refl _ _) (h2 hw') fun _=> .inl rfl
/-! ### All orders -/
theorem Hm :∀(l:List Bool) (i:Nat),l[i]? =some false->(l.set i true).count false+1=l.count false
 | [],_,h=>by simp at h
 |b::l,0,h=>by simp at h;subst h;simp
 |b::l,i+1,h=>by
  have:=Hm l i (by simpa using h)
  cases b<;>simp<;>omega
theorem Jf {m:Nat} {listed:Array Bool} (hok:Ok ops n m) (hls:listed.size=ops.size):∀i,i<ops.size->listed.getD i false=false->∃k,k<=i/\k∈Region.ready .any ops listed/\∀j,j<k->listed.getD j false=true:=by
 intro i
 induction i using Nat.strongRecOn with
 |ind i ih=>
  intro hi hl
  by_cases hex:∃j,j<i/\listed.getD j false=false
  ·obtain⟨j,hj,hjl⟩:=hex
   obtain⟨k,hk,h1,h2⟩:=ih j hj (by omega) hjl
   exact⟨k,by omega,h1,h2⟩
  ·have hall:∀j,j<i->listed.getD j false=true:=fun j hj=>by
    cases h:listed.getD j false with
    |true=>rfl
    |false=>exact absurd ⟨j,hj,h⟩ hex
   refine⟨i,Nat.le_refl _,mem_ready.2 ⟨?_,ops[i],by simp[hi],fun e he hb=>hall _ (hok.back i ops[i] (by simp[hi]) e he hb)⟩,hall⟩
   simp[hls,hi] at hl⊢;exact hl
theorem Sv {listed:Array Bool} {Ψ:Nat->Bi} {a:Act} {w:World} (inv:Inv ops C a0 n Ψ listed a w):
  ∀(f t i:Nat) (o:Oper),ops[t]? =some o->(∀e∈o.after,Region.binds .any e=true->listed.getD e.on false=true)->Z8 ops f t i=true->listed.getD i false=true:=by
 intro f
 induction f with
 |zero=>intro t i o _ _ h;simp[Z8] at h
 |succ f ih=>
  intro t i o ho hall h
  simp only[Z8,ho] at h
  obtain⟨e,he,hb⟩:=Array.any_eq_true'.1 h
  simp only[Bool.and_eq_true,Bool.or_eq_true,beq_iff_eq] at hb
  have hl:=hall e he hb.1
  rcases hb.2 with h1|h1
  ·rw[<-h1];exact hl
  ·cases ho':ops[e.on]? with
   |none=>cases f<;>simp[Z8,ho'] at h1
   |some o'=>exact ih e.on i o' ho' (inv.down _ _ ho' hl) h1
theorem Py {o:Oper} {ρ:Operand->Value} {L:List Nat} {Φ:Bi} {w:World} (hp:Fz o=true) (h:Ml P o L Φ w ((execOp ρ o).run P w)):∃v,Φ v w/\∀w',(execOp ρ o).run P w'= .ok (.value v) w':=by
 unfold Fz at hp
 unfold execOp at h⊢
 cases hop:o.op<;>rw[hop] at hp h<;>simp at hp<;>dsimp only at h⊢
 case move x=>exact⟨ρ x,h.2.1,fun _=>rfl⟩
 case assign x=>exact⟨ρ x,h.2.1,fun _=>rfl⟩
 case extract t ix=>
  unfold Instr.extract at h⊢
  split at h
  ·rename_i vs hvs
   cases hx:vs[ix]? with
   |some v=>rw[hx] at h;exact⟨v,h.2.1,fun _=>rfl⟩
   |none=>rw[hx] at h;exact h.elim
  ·exact h.elim
theorem nd_tail {m:Nat} {Ψ:Nat->Bi} (hok:Ok ops n m) (hm:m=a0.tmps.size) (hC:∀w w',C w->Rex (X.map (·.2)) w w'->C w')
  (hcl:∀i,i<n->A9 (Bn X i) (Ψ i)) (hop:∀i o,i<n->ops[i]? =some o->Rp P ops C (Fi X i) (Af a0 (Ds ops Ψ i)) o (Ψ i))
  (hQ:∀c a d v w,Q (.panic c) (Act.put a d v) w->Q (.panic c) a w)
  (hFin:∀a w,(∃listed,Inv ops C a0 n Ψ listed a w/\∀i,i<n->listed.getD i false=true)->wpList P ops Q (ops.toList.drop n) a w):
  ∀(f:Nat) (listed:Array Bool) (a:Act) (w:World),Inv ops C a0 n Ψ listed a w->listed.toList.count false=f->
   (∀i o,i<n->ops[i]? =some o->Fz o=false->listed.getD i false=true)->(∀t,n<=t->listed.getD t false=false)->wpAny P .any ops Q f listed a w:=by
 intro f
 induction f with
 |zero=>
  intro listed a w inv hcnt hnp htl
  have hall:∀i,i<ops.size->listed.getD i false=true:=by
   intro i hi
   have h0:¬false∈listed.toList:=by rw[<-List.count_eq_zero];exact hcnt
   have hi':i<listed.size:=by rw[inv.lsize];exact hi
   cases hb:listed[i] with
   |true=>simp[hi',hb]
   |false=>exact absurd (by rw[<-hb];exact Array.mem_toList_iff.2 (Array.getElem_mem hi')) h0
  have hn:n=ops.size:=by
   rcases Nat.lt_or_ge n ops.size with h|h
   ·have:=htl n (Nat.le_refl _);rw[hall n h] at this;cases this
   ·exact Nat.le_antisymm hok.le h
  have hready:Region.ready .any ops listed= []:=by
   apply List.eq_nil_iff_forall_not_mem.2
   intro k hk
   obtain⟨h1,o,ho,_⟩:=mem_ready.1 hk
   have hk':=(Array.getElem?_eq_some_iff.1 ho).1
   have h2:=hall k hk'
   simp[inv.lsize,hk'] at h1 h2
   rw[h1] at h2;cases h2
  have:=hFin a w ⟨listed,inv,fun i hi=>hall i (by omega)⟩
  rw[hn,List.drop_eq_nil_of_le (by simp)] at this
  exact⟨hready,this⟩
 |succ f ih=>
  intro listed a w inv hcnt hnp htl
  by_cases hbody:∀i,i<n->listed.getD i false=true
  ·--only the tail is left
   have hl:listed=(Array.replicate n true)++Array.replicate (ops.size-n) false:=by
    have hle:=hok.le
    apply Array.ext
    ·simp[inv.lsize];omega
    ·intro i h1 h2
     by_cases hi:i<n
     ·have:=hbody i hi
      simp[h1] at this
      simp[hi,this]
     ·have:=htl i (by omega)
      simp[h1] at this
      simp[Array.getElem_append,hi,this]
   have hc:listed.toList.count false=ops.size-n:=by
    rw[hl];simp[List.count_replicate]
   have hseq:=hok.seq
   unfold Nt at hseq
   rw[<-hl] at hseq
   have hlen:(ops.toList.drop n).length=ops.size-n:=by simp
   have:=wpAny_of_seq (P:=P) (md:= .any) (Q':=Q) (ops.toList.drop n) n listed a w (fun j=>by rw[List.getElem?_drop];simp) (by rw[hlen];exact hseq) (hFin a w ⟨listed,inv,hbody⟩)
   rw[hlen] at this
   have he:ops.size-n=f+1:=by omega
   rwa [he] at this
  ·obtain⟨i0,hi0⟩:=Classical.not_forall.1 hbody
   obtain⟨hi0n,hi0l⟩:=Classical.not_imp.1 hi0
   have hle:=hok.le
   obtain⟨k,hk1,hk2,hk3⟩:=Jf hok inv.lsize i0 (by omega) (by simpa using hi0l)
   obtain⟨hun,o,ho,_⟩:=mem_ready.1 hk2
   have hks:k<listed.size:=by rw[inv.lsize];exact(Array.getElem?_eq_some_iff.1 ho).1
   have hunf:=Co hks hun
   have hp:Fz o=true:=by
    cases h:Fz o with
    |true=>rfl
    |false=>have:=hnp k o (by omega) ho h;rw[hunf] at this;cases this
   obtain⟨h1,h2⟩:=hop k o (by omega) ho a w inv.c (Qr hok inv hk2 (by omega) ho)
   have hapart:∀j oj,ops[j]? =some oj->j≠k->listed.getD j true=false->(∀e∈oj.after,Region.binds .any e=true->e.on≠k)->o.apart ops oj=true:=by
    intro j oj hj hjk hjl hno
    have hjs:j<listed.size:=by rw[inv.lsize];exact(Array.getElem?_eq_some_iff.1 hj).1
    have hkj:k<j:=by
     rcases Nat.lt_or_ge j k with h|h
     ·have:=hk3 j h;rw[Co hjs hjl] at this;cases this
     ·omega
    rcases hok.late k o (by omega) ho with⟨_,h⟩|⟨h,_⟩
    ·refine h j oj hj hkj ?_
     cases hd:Qe ops j k with
     |false=>rfl
     |true=>
      simp only[Qe,hj] at hd
      obtain⟨e,hem,hb⟩:=Array.any_eq_true'.1 hd
      simp only[Bool.and_eq_true,beq_iff_eq] at hb
      exact absurd hb.2 (hno e hem hb.1)
    ·rw[hp] at h;cases h
   have hcnt':(listed.setIfInBounds k true).toList.count false=f:=by
    have hg:listed.toList[k]? =some false:=by simp[hks] at hunf;simp[hks,hunf]
    have:=Hm listed.toList k hg
    rw[Array.toList_setIfInBounds];omega
   have hrest:∀v,Inv ops C a0 n Ψ (listed.setIfInBounds k true) (a.put o.dst v) w->wpAny P .any ops Q f (listed.setIfInBounds k true) (a.put o.dst v) w:=fun v hinv=>
    ih _ _ _ hinv hcnt' (fun i oi hi hoi hpi=>getD_set_true (hnp i oi hi hoi hpi)) (fun t ht=>by rw[getD_set_ne false (by omega)];exact htl t ht)
   by_cases hw:Region.wanted o (yielded ops a.tmps)=true
   ·obtain⟨v,hv,hrun⟩:=Py hp (h1 hw)
    refine wpAny_first ho (Region.noSelect_spec hok.nosel) (fun c a w h=>hQ c a _ _ w h) f listed a w hapart hk2 (.inl ⟨hw,hrun⟩) (hrest v ?_)
    exact Mb hok hm hC hcl inv hk2 (by omega) ho (Rex.refl _ _) hv fun ha=>by
     unfold Au at ha;unfold Fz at hp;cases hop:o.op<;>rw[hop] at ha hp<;>simp at ha hp
   ·have hw':Region.wanted o (yielded ops a.tmps)=false:=by simpa using hw
    refine wpAny_first ho (Region.noSelect_spec hok.nosel) (fun c a w h=>hQ c a _ _ w h) f listed a w hapart hk2 (.inr ⟨hw',rfl⟩) (hrest undef ?_)
    exact Mb hok hm hC hcl inv hk2 (by omega) ho (Rex.refl _ _) (h2 hw') fun _=> .inl rfl
theorem nd_any {m:Nat} {Ψ:Nat->Bi} (hok:Ok ops n m) (hm:m=a0.tmps.size) (hC:∀w w',C w->Rex (X.map (·.2)) w w'->C w')
  (hcl:∀i,i<n->A9 (Bn X i) (Ψ i)) (hop:∀i o,i<n->ops[i]? =some o->Rp P ops C (Fi X i) (Af a0 (Ds ops Ψ i)) o (Ψ i))
  (hQ:∀c a d v w,Q (.panic c) (Act.put a d v) w->Q (.panic c) a w)
  (hFin:∀a w,(∃listed,Inv ops C a0 n Ψ listed a w/\∀i,i<n->listed.getD i false=true)->wpList P ops Q (ops.toList.drop n) a w):
  ∀(f:Nat) (listed:Array Bool) (a:Act) (w:World),Inv ops C a0 n Ψ listed a w->listed.toList.count false=f->(∀t,n<=t->listed.getD t false=false)->wpAny P .any ops Q f listed a w:=by
 intro f
 induction f with
 |zero=>exact fun listed a w inv hcnt htl=>nd_tail hok hm hC hcl hop hQ hFin 0 listed a w inv hcnt (fun i o hi ho _=>by
   have h0:¬false∈listed.toList:=by rw[<-List.count_eq_zero];exact hcnt
   have hi':i<listed.size:=by rw[inv.lsize];exact(Array.getElem?_eq_some_iff.1 ho).1
   cases hb:listed[i] with
   |true=>simp[hi',hb]
   |false=>exact absurd (by rw[<-hb];exact Array.mem_toList_iff.2 (Array.getElem_mem hi')) h0) htl
 |succ f ih=>
  intro listed a w inv hcnt htl
  by_cases hnp:∀i o,i<n->ops[i]? =some o->Fz o=false->listed.getD i false=true
  ·exact nd_tail hok hm hC hcl hop hQ hFin (f+1) listed a w inv hcnt hnp htl
  ·have:∃i o,i<n/\ops[i]? =some o/\Fz o=false/\listed.getD i false=false:=by
    apply Classical.byContradiction
    intro hno
    exact hnp fun i o hi ho hp=>by
     cases h:listed.getD i false with
     |true=>rfl
     |false=>exact absurd ⟨i,o,hi,ho,hp,h⟩ hno
   obtain⟨i0,o0,hi0,ho0,hp0,hl0⟩:=this
   have hle:=hok.le
   obtain⟨k,hk1,hk2,hk3⟩:=Jf hok inv.lsize i0 (by omega) hl0
   refine⟨fun h=>(by rw[h] at hk2;cases hk2),fun i hi=> ?_⟩
   have hin:i<n:=by
    rcases Nat.lt_or_ge i n with h|h
    ·exact h
    ·obtain⟨_,o,ho,hall⟩:=mem_ready.1 hi
     rcases hok.late i0 o0 hi0 ho0 with⟨h',_⟩|⟨_,h'⟩
     ·rw[hp0] at h';cases h'
     ·have:=Sv inv 8 i i0 o ho hall (h' i h (Array.getElem?_eq_some_iff.1 ho).1)
      rw[hl0] at this;cases this
   refine wpOp_mono (fun a' w' hinv=>ih _ a' w' hinv ?_ fun t ht=>by rw[getD_set_ne false (by omega)];exact htl t ht) (inv_step hok hm hC hcl hop inv hi hin)
   obtain⟨hun,o,ho,_⟩:=mem_ready.1 hi
   have his:i<listed.size:=by rw[inv.lsize];exact(Array.getElem?_eq_some_iff.1 ho).1
   have hunf:=Co his hun
   have hg:listed.toList[i]? =some false:=by simp[his] at hunf;simp[his,hunf]
   have:=Hm listed.toList i hg
   rw[Array.toList_setIfInBounds];omega
/-! ### The frame behind the region -/
def Hr (ops:Array Oper) (val:Nat->Value) (a0:Act):Nat->Act
 |0=>a0
 |k+1=>(Hr ops val a0 k).put (Bf ops k) (val k)
theorem L5 (val:Nat->Value):∀k,(Hr ops val a0 k).tmps.size=a0.tmps.size
 |0=>rfl
 |k+1=>by
  have:=L5 val k
  cases h:Bf ops k<;>simp[Hr,h,Act.put,this]
theorem Lc (val:Nat->Value):∀k,(Hr ops val a0 k).defers=a0.defers
 |0=>rfl
 |k+1=>by
  have:=Lc val k
  cases h:Bf ops k<;>simp[Hr,h,Act.put,this]
theorem Pc (val:Nat->Value) (s:Tmp):∀k,(∀i,i<k->Bf ops i≠some s)->(Hr ops val a0 k).tmps.getD s undef=a0.tmps.getD s undef
 |0,_=>rfl
 |k+1,h=>by
  have h1:=Pc val s k fun i hi=>h i (by omega)
  have h2:=h k (by omega)
  cases hd:Bf ops k with
  |none=>simpa [Hr,hd,Act.put] using h1
  |some d=>
   simp only[Hr,hd]
   rw[Fu (fun e=>h2 (by rw[hd,e])),h1]
theorem Pb {m:Nat} (hok:Ok ops n m) (hm:m=a0.tmps.size) (val:Nat->Value) (s:Tmp):∀k,k<=n->∀i,i<k->Bf ops i=some s->(Hr ops val a0 k).tmps.getD s undef=val i
 |0,_,_,h,_=>by omega
 |k+1,hk,i,hi,hw=>by
  by_cases hik:i=k
  ·subst hik
   simp only[Hr,hw]
   exact Gw (by rw[L5,<-hm];exact hok.dst i s (by omega) hw)
  ·have h1:=Pb hok hm val s k (by omega) i (by omega) hw
   cases hd:Bf ops k with
   |none=>simpa [Hr,hd,Act.put] using h1
   |some d=>
    simp only[Hr,hd]
    rw[Fu (fun e=>hik (hok.uniq i k s (by omega) (by omega) hw (by rw[hd,e]))),h1]
theorem fin_of {w:World} {Ψ:Nat->Bi} {val:Nat->Value}:∀(k:Nat) (K:Act->Prop),(∀i,i<k->Ψ i (val i) w)->A6 w a0 (Ds ops Ψ k) K->K (Hr ops val a0 k)
 |0,_,_,h=>h
 |k+1,K,hv,h=>fin_of k (fun a=>∀v,Ψ k v w->K (a.put (Bf ops k) v)) (fun i hi=>hv i (by omega)) h (val k) (hv k (by omega))
theorem E8 {id:Nat} {l:List Oper} {w0:World} (n m:Nat) (X:List (Nat×Nat)) (C:World->Prop) (hf:P.follows .mixedOrders=true) (hB:okB l.toArray n m=true) (hm:m=a0.tmps.size)
  (h0:C w0.drew) (hC:∀w w',C w->Rex (X.map (·.2)) w w'->C w') (hQ:∀c a d v w,Q (.panic c) (Act.put a d v) w->Q (.panic c) a w)
  (h:Ao P l.toArray C X a0 (fun acc=>∀w,C w->A6 w a0 acc fun a=>Gs (Cz (l.take n)) a->wpList P l.toArray Q (l.drop n) a w) 0 (l.take n) []):
  (Code.region id l.toArray true).wp P Q a0 w0:=by
 have hok:=Ur hB
 have hle:n<=l.length:=by have:=hok.le;simpa using this
 obtain⟨Ψ,_,h2,h3⟩:=O2 (ops:=l.toArray) (l.take n) 0 [] (fun _ _ _=>True) (fun j hj=>by simp at hj;simp[hj]) rfl h
 have hlen:0+(l.take n).length=n:=by simp;omega
 rw[hlen] at h3
 have hcl:∀i,i<n->A9 (Bn X i) (Ψ i):=fun i hi=>(h2 i (by omega) (by omega)).1
 have hop:∀i o,i<n->l.toArray[i]? =some o->Rp P l.toArray C (Fi X i) (Af a0 (Ds l.toArray Ψ i)) o (Ψ i):=fun i o hi ho=>by
  obtain⟨_,o',ho',h⟩:=h2 i (by omega) (by omega)
  rw[ho] at ho';injection ho' with e;subst e;exact h
 refine wp_region_any hf ?_
 refine nd_any hok hm hC hcl hop hQ ?_ _ _ _ _ ⟨h0,rfl,rfl,by simp,?_,?_,?_,?_,?_,?_⟩ (by simp) (fun t _=>getD_replicate_false _ t)
 ·rintro a w ⟨listed,inv,hall⟩
  have hex:∀i,∃v,i<n->Ψ i v w/\∀d,Bf l.toArray i=some d->v=a.tmps.getD d undef:=by
   intro i
   by_cases hi:i<n
   ·cases hd:Bf l.toArray i with
    |none=>
     obtain⟨u,hu⟩:=inv.eff i hi (hall i hi) hd
     exact⟨u,fun _=>⟨hu,fun d h=>by cases h⟩⟩
    |some d=>exact⟨a.tmps.getD d undef,fun _=>⟨inv.val i hi (hall i hi) d hd,fun d' h=>by injection h with h;rw[h]⟩⟩
   ·exact⟨undef,fun h=>absurd h hi⟩
  let val:Nat->Value:=fun i=>(hex i).choose
  have hval:∀i,i<n->Ψ i (val i) w/\∀d,Bf l.toArray i=some d->val i=a.tmps.getD d undef:=fun i hi=>(hex i).choose_spec hi
  have ha:a=Hr l.toArray val a0 n:=by
   have ht:a.tmps=(Hr l.toArray val a0 n).tmps:=by
    apply Array.ext
    ·rw[L5,inv.size]
    ·intro s h1 h2
     have hg:a.tmps.getD s undef=(Hr l.toArray val a0 n).tmps.getD s undef:=by
      by_cases hw:∃i,i<n/\Bf l.toArray i=some s
      ·obtain⟨i,hi,hw⟩:=hw
       rw[Pb hok hm val s n (Nat.le_refl _) i hi hw,(hval i hi).2 s hw]
      ·rw[Pc val s n fun i hi hwi=>hw ⟨i,hi,hwi⟩]
       exact inv.old s fun i hi _ hwi=>hw ⟨i,hi,hwi⟩
     simpa [h1,h2] using hg
   have hd:a.defers=(Hr l.toArray val a0 n).defers:=by rw[Lc,inv.defers]
   cases a;cases hp:Hr l.toArray val a0 n;rw[hp] at ht hd;simp at ht hd;subst ht;subst hd;rfl
  have hfin:=fin_of (ops:=l.toArray) (a0:=a0) (val:=val) n _ (fun i hi=>(hval i hi).1) (h3 w inv.c)
  rw[<-ha] at hfin
  refine hfin ?_
  intro d d' hd hd' hne x hx
  simp only[Cz,List.mem_filterMap] at hd hd'
  obtain⟨o,ho,hdo⟩:=hd
  obtain⟨o',ho',hdo'⟩:=hd'
  obtain⟨i,hi⟩:=List.mem_iff_getElem?.1 ho
  obtain⟨j,hj⟩:=List.mem_iff_getElem?.1 ho'
  have ha1:Au o=true:=by cases h:Au o with|true=>rfl|false=>rw[h] at hdo;simp at hdo
  have ha2:Au o'=true:=by cases h:Au o' with|true=>rfl|false=>rw[h] at hdo';simp at hdo'
  rw[ha1] at hdo;rw[ha2] at hdo'
  simp only[if_true] at hdo hdo'
  have hin:i<n:=by
   rcases Nat.lt_or_ge i n with h|h
   ·exact h
   ·rw[List.getElem?_take,if_neg (by omega)] at hi;cases hi
  have hjn:j<n:=by
   rcases Nat.lt_or_ge j n with h|h
   ·exact h
   ·rw[List.getElem?_take,if_neg (by omega)] at hj;cases hj
  rw[List.getElem?_take,if_pos hin] at hi
  rw[List.getElem?_take,if_pos hjn] at hj
  refine inv.apart i o d j o' d' hin hjn ?_ (hall i hin) (hall j hjn) (by simpa using hi) (by simpa using hj) ha1 ha2 hdo hdo' x hx
  rintro rfl
  rw[hi] at hj;injection hj with e;subst e;rw[hdo] at hdo';injection hdo' with e;exact hne e
 ·intro i o ho hl;rw[getD_replicate_false] at hl;cases hl
 ·intro i hi hl;rw[getD_replicate_false] at hl;cases hl
 ·intro i hi hl;rw[getD_replicate_false] at hl;cases hl
 ·intro s _;rfl
 ·intro i o d hi hl;rw[getD_replicate_false] at hl;cases hl
 ·intro i o d j o' d' hi hj hij hl;rw[getD_replicate_false] at hl;cases hl
theorem Fp {Fin Fin':List (Option Tmp×Bi)->Prop} (hf:∀acc,Fin acc->Fin' acc):∀(l:List Oper) (k:Nat) (acc:List (Option Tmp×Bi)),Ao P ops C X a0 Fin k l acc->Ao P ops C X a0 Fin' k l acc
 | [],_,_,h=>hf _ h
 |_::l,k,_,⟨Φ,h1,h2,h3⟩=>⟨Φ,h1,h2,Fp hf l (k+1) _ h3⟩
theorem Lf {w:World}:∀ {K':Act->Prop} (acc:List (Option Tmp×Bi)) (K:Act->Prop),(∀a,K a->K' a)->A6 w a0 acc K->A6 w a0 acc K'
 |_,[],_,hk,h=>hk _ h
 |_,(d,Φ)::r,K,hk,h=>Lf r (fun a=>∀v,Φ v w->K (a.put d v)) (fun _ ha v hv=>hk _ (ha v hv)) h
theorem Az {id:Nat} {l:List Oper} {w0:World} (n m:Nat) (X:List (Nat×Nat)) (C:World->Prop) (hf:P.follows .mixedOrders=true) (hB:okB l.toArray n m=true) (hm:m=a0.tmps.size)
  (h0:C w0.drew) (hC:∀w w',C w->Rex (X.map (·.2)) w w'->C w') (hQ:∀c a d v w,Q (.panic c) (Act.put a d v) w->Q (.panic c) a w)
  (h:Ao P l.toArray C X a0 (fun acc=>∀w,C w->A6 w a0 acc fun a=>wpList P l.toArray Q (l.drop n) a w) 0 (l.take n) []):
  (Code.region id l.toArray true).wp P Q a0 w0:=
 E8 n m X C hf hB hm h0 hC hQ (Fp (fun acc hacc w hc=>Lf (K':=fun a=>Gs (Cz (l.take n)) a->wpList P l.toArray Q (l.drop n) a w) acc _ (fun _ ha _=>ha) (hacc w hc)) _ _ _ h)
theorem D7 {id:Nat} {l:List Oper} {w0:World} (n m:Nat) (X:List (Nat×Nat)) (C:World->Prop) (hf:P.follows .mixedOrders=true) (hB:okB l.toArray n m=true) (hm:m=a0.tmps.size)
  (h0:C w0.drew) (hC:∀w w',C w->Rex (X.map (·.2)) w w'->C w') (hn:l.drop n= [])
  (h:Ao P l.toArray C X a0 (fun acc=>∀w,C w->A6 w a0 acc fun a=>wpList P l.toArray Q (l.drop n) a w) 0 (l.take n) []):
  (Code.region id l.toArray true).wp P Q a0 w0:=by
 refine wp_mono (Q:=fun e a w=>match e with| .panic _=>False|e=>Q e a w) (Az n m X C hf hB hm h0 hC (fun _ _ _ _ _ h=>h) (Fp (fun acc hacc w hc=>Lf acc _ (fun a ha=> ?_) (hacc w hc)) _ _ _ h)) fun e a w h=> ?_
 ·rw[hn] at ha⊢;exact ha
 ·cases e<;>first|exact h|exact h.elim
/-! ### The same steps through a region whose order is the text's -/
def J2 (a0:Act):List (Option Tmp×Bi)->Act->World->Prop
 | [],a,_=>a=a0
 |(d,Φ)::r,a,w=>∃a' v,J2 a0 r a' w/\Φ v w/\a=a'.put d v
theorem J2.fin {w:World}:∀(acc:List (Option Tmp×Bi)) (a:Act) (K:Act->Prop),J2 a0 acc a w->A6 w a0 acc K->K a
 | [],a,K,h,hf=>by rw[show a=a0 from h];exact hf
 |(d,Φ)::r,a,K,h,hf=>by
  obtain⟨a',v,h',hv,rfl⟩:=h
  exact J2.fin r a' _ h' hf v hv
theorem J2.size {w:World}:∀(acc:List (Option Tmp×Bi)) (a:Act),J2 a0 acc a w->a.tmps.size=a0.tmps.size
 | [],a,h=>by rw[show a=a0 from h]
 |(d,Φ)::r,a,h=>by
  obtain⟨a',v,h',_,rfl⟩:=h
  rw[<-J2.size r a' h']
  cases d<;>simp[Act.put]
theorem J2.env {w:World} (s:Tmp):∀(acc:List (Option Tmp×Bi)) (a:Act),(∀p∈acc,∀d,p.1=some d->d<a0.tmps.size)->J2 a0 acc a w->Af a0 acc s (a.tmps.getD s undef) w
 | [],a,_,h=>by rw[show a=a0 from h];rfl
 |(d,Φ)::r,a,hb,h=>by
  obtain⟨a',v,h',hv,rfl⟩:=h
  by_cases hd:d=some s
  ·subst hd
   have hlt:s<a'.tmps.size:=by rw[J2.size r a' h'];exact hb _ (List.mem_cons_self ..) s rfl
   have he:Af a0 ((some s,Φ)::r) s=Φ:=by simp[Af]
   rw[he,Gw hlt]
   exact hv
  ·have he:Af a0 ((d,Φ)::r) s=Af a0 r s:=by
    have:(d==some s)=false:=by simpa using hd
    simp[Af,this]
   have hg:(a'.put d v).tmps.getD s undef=a'.tmps.getD s undef:=by
    cases d with
    |none=>rfl
    |some d=>exact Fu (fun e=>hd (by rw[e]))
   rw[he,hg]
   exact J2.env s r a' (fun p hp=>hb p (List.mem_cons_of_mem _ hp)) h'
theorem J2.keep {L:List Nat} {w w':World} (hr:Rex L w w'):∀(acc:List (Option Tmp×Bi)) (a:Act),(∀p∈acc,A9 L p.2)->J2 a0 acc a w->J2 a0 acc a w'
 | [],_,_,h=>h
 |(d,Φ)::r,a,hc,h=>by
  obtain⟨a',v,h',hv,rfl⟩:=h
  exact⟨a',v,J2.keep hr r a' (fun p hp=>hc p (List.mem_cons_of_mem _ hp)) h',hc _ (List.mem_cons_self ..) v w w' hr hv,rfl⟩
def InB (m:Nat) (l:List Oper):Bool:=l.all fun o=>match o.dst with|some d=>decide (d<m)|none=>true
theorem X8 {Fin:List (Option Tmp×Bi)->Prop} {K:Act->World->Prop} (hC:∀w w',C w->Rex (X.map (·.2)) w w'->C w') (tail:List Oper)
  (hFin:∀acc a w,Fin acc->C w->J2 a0 acc a w->wpList P ops Q tail a w):
  ∀(l:List Oper) (k:Nat) (acc:List (Option Tmp×Bi)) (a:Act) (w:World),(∀o∈l,∀d,o.dst=some d->d<a0.tmps.size)->(∀p∈acc,∀d,p.1=some d->d<a0.tmps.size)->
   (∀j,k<=j->∀p∈acc,A9 (Fi X j) p.2)->C w->J2 a0 acc a w->Ao P ops C X a0 Fin k l acc->wpList P ops Q (l++tail) a w
 | [],k,acc,a,w,_,_,_,hc,hh,h=>hFin acc a w h hc hh
 |o::l,k,acc,a,w,hb,hba,hcl,hc,hh,h=>by
  obtain⟨Φ,h1,h2,h3⟩:=h
  have go:∀(u:Value) (w':World),Rex (Fi X k) w w'->Φ u w'->wpList P ops Q (l++tail) (a.put o.dst u) w':=by
   intro u w' hR hu
   refine X8 (K:=K) hC tail hFin l (k+1) ((o.dst,Φ)::acc) _ w' (fun o' ho'=>hb o' (List.mem_cons_of_mem _ ho')) ?_ ?_ (hC _ _ hc (hR.more Yk)) ⟨a,u,?_,hu,rfl⟩ h3
   ·intro p hp d hd
    rcases List.mem_cons.1 hp with rfl|hp
    ·exact hb o (List.mem_cons_self ..) d hd
    ·exact hba p hp d hd
   ·intro j hj p hp
    rcases List.mem_cons.1 hp with rfl|hp
    ·exact fun v w w' hr hv=>h1 v w w' (hr.more (Ri (by omega))) hv
    ·exact hcl j (by omega) p hp
   ·exact J2.keep hR acc a (hcl k (Nat.le_refl _)) hh
  obtain⟨g1,g2⟩:=h2 a w hc (fun s _=>J2.env s acc a hba hh)
  simp only[List.cons_append]
  unfold wpList
  by_cases hw:Region.wanted o (yielded ops a.tmps)=true
  ·rw[if_pos hw]
   refine .inl ?_
   have g1:=g1 hw
   unfold Oper.wp
   generalize (execOp a.eval o).run P w=r at g1
   cases r with
   |ok x w'=>
    cases x<;>simp only[Ml] at g1<;>simp only[Oper.upon]
    case value u=>exact go u w' g1.1 g1.2.1
    case skip=>exact go undef w' g1.1 g1.2.1
    case enter f args=>
     obtain⟨rfl,_,hcall⟩:=g1
     refine hcall.mono fun e w'' ⟨u,he,hR,hΦ⟩=> ?_
     subst he
     exact go u w'' hR hΦ
   |halt x w'=>simp only[Ml] at g1
  ·have hw':Region.wanted o (yielded ops a.tmps)=false:=by simpa using hw
   rw[if_neg hw]
   exact go undef w (Rex.refl _ _) (g2 hw')
theorem Dm {id:Nat} {l:List Oper} {w0:World} (n m:Nat) (X:List (Nat×Nat)) (C:World->Prop) (hB:InB m l=true) (hm:m=a0.tmps.size) (h0:C w0)
  (hC:∀w w',C w->Rex (X.map (·.2)) w w'->C w') (h:Ao P l.toArray C X a0 (fun acc=>∀w,C w->A6 w a0 acc fun a=>wpList P l.toArray Q (l.drop n) a w) 0 (l.take n) []):
  (Code.region id l.toArray false).wp P Q a0 w0:=by
 have hb:∀o∈l,∀d,o.dst=some d->d<a0.tmps.size:=by
  intro o ho d hd
  have:=List.all_eq_true.1 hB o ho
  rw[hd] at this
  rw[<-hm]
  simpa using this
 have:=X8 (P:=P) (ops:=l.toArray) (Q:=Q) (a0:=a0) (K:=fun _ _=>True) hC (l.drop n) (fun acc a w hF hc hh=>J2.fin acc a (fun a=>wpList P l.toArray Q (l.drop n) a w) hh (hF w hc)) (l.take n) 0 [] a0 w0
  (fun o ho=>hb o (List.mem_of_mem_take ho)) (fun p hp=>by cases hp) (fun _ _ p hp=>by cases hp) h0 rfl h
 rw[List.take_append_drop] at this
 exact wp_region_lit this
end
def Det (c:Value):Bi:=fun v _=>v=c
def Am (p:Bool) (c:Value):Bi:=fun v _=>if p=true then v=c else v=undef
theorem Gn (L:List Nat) (c:Value):A9 L (Det c):=fun _ _ _ _ h=>h
theorem P6 (L:List Nat) (p:Bool) (c:Value):A9 L (Am p c):=fun _ _ _ _ h=>h
section
variable {P:Program} {ops:Array Oper} {C:World->Prop} {X:List (Nat×Nat)} {a0:Act} {Fin:List (Option Tmp×Bi)->Prop} {i:Nat} {o:Oper} {rest:List Oper} {acc:List (Option Tmp×Bi)}
theorem Ee {o:Oper} {y:Nat->Option Bool} (h:o.guard=none):Region.wanted o y=true:=by simp[Region.wanted,h]
theorem Gu {o:Oper} {k:Nat} {want x:Bool} {d:Tmp} {a:Act} (h:o.guard=some (k,want)) (hd:Bf ops k=some d) (hv:a.tmps.getD d undef= .bool x):
  Region.wanted o (yielded ops a.tmps)=(x==want):=by
 have hx:a.tmps[d]? =some (.bool x):=by
  cases h:a.tmps[d]? with
  |none=>simp[h,undef] at hv
  |some v=>simpa [h] using hv
 unfold Bf at hd
 simp only[Region.wanted,h,yielded,hd,Option.bind_some,hx]
 cases x<;>cases want<;>rfl
theorem J3 {o:Oper} {k:Nat} {want:Bool} {d:Tmp} {a:Act} (h:o.guard=some (k,want)) (hd:Bf ops k=some d) (hv:a.tmps.getD d undef=undef):
  Region.wanted o (yielded ops a.tmps)=false:=by
 unfold Bf at hd
 have:∀b,a.tmps[d]? ≠some (.bool b):=by
  intro b hb
  simp[hb,undef] at hv
 simp only[Region.wanted,h,yielded,hd,Option.bind_some]
 cases hx:a.tmps[d]? with
 |none=>rfl
 |some v=>cases v with
  |bool b=>exact absurd hx (this b)
  |_=>rfl
theorem An (c:Value) (hg:o.guard=none) (hal:Au o=false)
  (h:∀(a:Act) (w:World),C w->(∀s∈o.looksAt ops,Af a0 acc s (a.tmps.getD s undef) w)->(execOp a.eval o).run P w= .ok (.value c) w)
  (hr:Ao P ops C X a0 Fin (i+1) rest ((o.dst,Det c)::acc)):Ao P ops C X a0 Fin i (o::rest) acc:=
 ⟨Det c,Gn _ _,fun a w hC hE=>⟨fun _=>by rw[h a w hC hE];exact⟨Rex.refl _ _,rfl,fun e=>by rw[hal] at e;cases e⟩,fun e=>by rw[Ee hg] at e;cases e⟩,hr⟩
theorem Ai (p x want:Bool) (k:Nat) (d:Tmp) (c:Value) (hg:o.guard=some (k,want)) (hd:Bf ops k=some d) (hal:Au o=false)
  (hx:∀v w,Af a0 acc d v w->if p=true then v= .bool x else v=undef)
  (h:p=true->x=want->∀(a:Act) (w:World),C w->(∀s∈o.looksAt ops,Af a0 acc s (a.tmps.getD s undef) w)->(execOp a.eval o).run P w= .ok (.value c) w)
  (hr:Ao P ops C X a0 Fin (i+1) rest ((o.dst,Am (p&&(x==want)) c)::acc)):Ao P ops C X a0 Fin i (o::rest) acc:=by
 refine⟨Am (p&&(x==want)) c,P6 _ _ _,fun a w hC hE=> ?_,hr⟩
 have hin:d∈o.looksAt ops:=by
  unfold Bf at hd
  simp[Oper.looksAt,hg,hd]
 have hv:=hx _ _ (hE d hin)
 cases p with
 |true=>
  have hw:=Gu (o:=o) hg hd (by simpa using hv)
  refine⟨fun e=> ?_,fun e=> ?_⟩
  ·rw[hw] at e
   rw[h rfl (by simpa using e) a w hC hE]
   exact⟨Rex.refl _ _,by simp[Am,e],fun e=>by rw[hal] at e;cases e⟩
  ·rw[hw] at e
   simp[Am,e]
 |false=>
  have hw:=J3 (o:=o) hg hd (by simpa using hv)
  exact⟨fun e=>(by rw[hw] at e;cases e),fun _=>(by simp[Am])⟩
theorem Nw {o:Oper} {a:Act} {c x y:Operand} {b:Bool} {w:World} (ho:o.op= .pick c x y) (hc:a.eval c= .bool b):(execOp a.eval o).run P w= .ok (.value (if b=true then a.eval x else a.eval y)) w:=by
 unfold execOp
 rw[ho]
 simp[hc,asBool]
theorem Cm (x y:Bool) (c t:Tmp) (ho:o.op= .pick (.tmp c) (.tmp t) (.const (.bool false))) (hg:o.guard=none)
  (hc:∀v w,Af a0 acc c v w->v= .bool x) (ht:∀v w,Af a0 acc t v w->x=true->v= .bool y)
  (hr:Ao P ops C X a0 Fin (i+1) rest ((o.dst,Det (.bool (x&&y)))::acc)):Ao P ops C X a0 Fin i (o::rest) acc:=by
 refine An (.bool (x&&y)) hg (by unfold Au;rw[ho]) (fun a w hC hE=> ?_) hr
 have h1:=hc _ _ (hE c (by simp[Oper.looksAt,ho,Op.operands]))
 have h2:=ht _ _ (hE t (by simp[Oper.looksAt,ho,Op.operands]))
 rw[Nw (b:=x) ho (by simpa [Act.eval] using h1)]
 cases x
 ·simp[Act.eval]
 ·simpa [Act.eval] using h2 rfl
theorem Ek (x y:Bool) (c t:Tmp) (ho:o.op= .pick (.tmp c) (.const (.bool true)) (.tmp t)) (hg:o.guard=none)
  (hc:∀v w,Af a0 acc c v w->v= .bool x) (ht:∀v w,Af a0 acc t v w->x=false->v= .bool y)
  (hr:Ao P ops C X a0 Fin (i+1) rest ((o.dst,Det (.bool (x||y)))::acc)):Ao P ops C X a0 Fin i (o::rest) acc:=by
 refine An (.bool (x||y)) hg (by unfold Au;rw[ho]) (fun a w hC hE=> ?_) hr
 have h1:=hc _ _ (hE c (by simp[Oper.looksAt,ho,Op.operands]))
 have h2:=ht _ _ (hE t (by simp[Oper.looksAt,ho,Op.operands]))
 rw[Nw (b:=x) ho (by simpa [Act.eval] using h1)]
 cases x
 ·simpa [Act.eval] using h2 rfl
 ·simp[Act.eval]
theorem Dp (p g want x y:Bool) (k:Nat) (d c t:Tmp) (ho:o.op= .pick (.tmp c) (.tmp t) (.const (.bool false))) (hg:o.guard=some (k,want)) (hd:Bf ops k=some d)
  (hx:∀v w,Af a0 acc d v w->if p=true then v= .bool g else v=undef)
  (hc:p=true->g=want->∀v w,Af a0 acc c v w->v= .bool x) (ht:p=true->g=want->∀v w,Af a0 acc t v w->x=true->v= .bool y)
  (hr:Ao P ops C X a0 Fin (i+1) rest ((o.dst,Am (p&&(g==want)) (.bool (x&&y)))::acc)):Ao P ops C X a0 Fin i (o::rest) acc:=by
 refine Ai p g want k d (.bool (x&&y)) hg hd (by unfold Au;rw[ho]) hx (fun e1 e2 a w hC hE=> ?_) hr
 have h1:=hc e1 e2 _ _ (hE c (by simp[Oper.looksAt,ho,Op.operands]))
 have h2:=ht e1 e2 _ _ (hE t (by simp[Oper.looksAt,ho,Op.operands]))
 rw[Nw (b:=x) ho (by simpa [Act.eval] using h1)]
 cases x
 ·simp[Act.eval]
 ·simpa [Act.eval] using h2 rfl
theorem P0 (p g want x y:Bool) (k:Nat) (d c t:Tmp) (ho:o.op= .pick (.tmp c) (.const (.bool true)) (.tmp t)) (hg:o.guard=some (k,want)) (hd:Bf ops k=some d)
  (hx:∀v w,Af a0 acc d v w->if p=true then v= .bool g else v=undef)
  (hc:p=true->g=want->∀v w,Af a0 acc c v w->v= .bool x) (ht:p=true->g=want->∀v w,Af a0 acc t v w->x=false->v= .bool y)
  (hr:Ao P ops C X a0 Fin (i+1) rest ((o.dst,Am (p&&(g==want)) (.bool (x||y)))::acc)):Ao P ops C X a0 Fin i (o::rest) acc:=by
 refine Ai p g want k d (.bool (x||y)) hg hd (by unfold Au;rw[ho]) hx (fun e1 e2 a w hC hE=> ?_) hr
 have h1:=hc e1 e2 _ _ (hE c (by simp[Oper.looksAt,ho,Op.operands]))
 have h2:=ht e1 e2 _ _ (hE t (by simp[Oper.looksAt,ho,Op.operands]))
 rw[Nw (b:=x) ho (by simpa [Act.eval] using h1)]
 cases x
 ·simpa [Act.eval] using h2 rfl
 ·simp[Act.eval]
theorem A5 (Φ:Bi) (hcl:A9 (Bn X i) Φ) (hg:o.guard=none) (hal:Au o=false)
  (h:∀(a:Act) (w:World),C w->(∀s∈o.looksAt ops,Af a0 acc s (a.tmps.getD s undef) w)->
   ∃f args,(execOp a.eval o).run P w= .ok (.enter f args) w/\Calls P f args w fun e w'=>∃u,e= .returned u/\Below w.heap.size w w'/\Φ u w')
  (hr:Ao P ops C X a0 Fin (i+1) rest ((o.dst,Φ)::acc)):Ao P ops C X a0 Fin i (o::rest) acc:=
 ⟨Φ,hcl,fun a w hC hE=>⟨fun _=>by
  obtain⟨f,args,h1,h2⟩:=h a w hC hE
  rw[h1]
  exact⟨rfl,hal,h2.mono fun e w' ⟨u,he,hb,hΦ⟩=>⟨u,he,Rex.of_below hb,hΦ⟩⟩,fun e=>by rw[Ee hg] at e;cases e⟩,hr⟩
theorem Ru (c:Value) (hg:o.guard=none) (hal:Au o=false)
  (h:∀(a:Act) (w:World),C w->(∀s∈o.looksAt ops,Af a0 acc s (a.tmps.getD s undef) w)->
   ∃f args,(execOp a.eval o).run P w= .ok (.enter f args) w/\Calls P f args w fun e w'=>e= .returned c/\Below w.heap.size w w')
  (hr:Ao P ops C X a0 Fin (i+1) rest ((o.dst,Det c)::acc)):Ao P ops C X a0 Fin i (o::rest) acc:=
 A5 (Det c) (Gn _ _) hg hal (fun a w hC hE=>by
  obtain⟨f,args,h1,h2⟩:=h a w hC hE
  exact⟨f,args,h1,h2.mono fun e w' ⟨he,hb⟩=>⟨c,he,hb,rfl⟩⟩) hr
theorem Cx {f:FuncId} {args:Array Value} {c:Value} (hg:o.guard=none) (hal:Au o=false) (hc:∀w,C w->Calls P f args w fun e w'=>e= .returned c/\Below w.heap.size w w')
  (h:∀(a:Act) (w:World),C w->(∀s∈o.looksAt ops,Af a0 acc s (a.tmps.getD s undef) w)->(execOp a.eval o).run P w= .ok (.enter f args) w)
  (hr:Ao P ops C X a0 Fin (i+1) rest ((o.dst,Det c)::acc)):Ao P ops C X a0 Fin i (o::rest) acc:=
 Ru c hg hal (fun a w hC hE=>⟨f,args,h a w hC hE,hc w hC⟩) hr
theorem L8 (p x want:Bool) (k:Nat) (d:Tmp) (c:Value) (hg:o.guard=some (k,want)) (hd:Bf ops k=some d) (hal:Au o=false)
  (hx:∀v w,Af a0 acc d v w->if p=true then v= .bool x else v=undef)
  (h:p=true->x=want->∀(a:Act) (w:World),C w->(∀s∈o.looksAt ops,Af a0 acc s (a.tmps.getD s undef) w)->
   ∃f args,(execOp a.eval o).run P w= .ok (.enter f args) w/\Calls P f args w fun e w'=>e= .returned c/\Below w.heap.size w w')
  (hr:Ao P ops C X a0 Fin (i+1) rest ((o.dst,Am (p&&(x==want)) c)::acc)):Ao P ops C X a0 Fin i (o::rest) acc:=by
 refine⟨Am (p&&(x==want)) c,P6 _ _ _,fun a w hC hE=> ?_,hr⟩
 have hin:d∈o.looksAt ops:=by
  unfold Bf at hd
  simp[Oper.looksAt,hg,hd]
 have hv:=hx _ _ (hE d hin)
 cases p with
 |true=>
  have hw:=Gu (o:=o) hg hd (by simpa using hv)
  refine⟨fun e=> ?_,fun e=> ?_⟩
  ·rw[hw] at e
   obtain⟨f,args,h1,h2⟩:=h rfl (by simpa using e) a w hC hE
   rw[h1]
   exact⟨rfl,hal,h2.mono fun e' w' ⟨he,hb⟩=>⟨c,he,Rex.of_below hb,by simp[Am,e]⟩⟩
  ·rw[hw] at e
   simp[Am,e]
 |false=>
  have hw:=J3 (o:=o) hg hd (by simpa using hv)
  exact⟨fun e=>(by rw[hw] at e;cases e),fun _=>(by simp[Am])⟩
theorem Bu {f:FuncId} {args:Array Value} {c:Value} (p x want:Bool) (k:Nat) (d:Tmp) (hg:o.guard=some (k,want)) (hd:Bf ops k=some d) (hal:Au o=false)
  (hx:∀v w,Af a0 acc d v w->if p=true then v= .bool x else v=undef)
  (hc:p=true->x=want->∀w,C w->Calls P f args w fun e w'=>e= .returned c/\Below w.heap.size w w')
  (h:p=true->x=want->∀(a:Act) (w:World),C w->(∀s∈o.looksAt ops,Af a0 acc s (a.tmps.getD s undef) w)->(execOp a.eval o).run P w= .ok (.enter f args) w)
  (hr:Ao P ops C X a0 Fin (i+1) rest ((o.dst,Am (p&&(x==want)) c)::acc)):Ao P ops C X a0 Fin i (o::rest) acc:=
 L8 p x want k d c hg hd hal hx (fun e1 e2 a w hC hE=>⟨f,args,h e1 e2 a w hC hE,hc e1 e2 w hC⟩) hr
def Blk (w:World) (b:Nat) (cs:Array Value) (t:TypeId):Prop:=w.heap[b]? =some (.cells cs t (0,0))
theorem Blk.lt {w:World} {b:Nat} {cs:Array Value} {t:TypeId} (h:Blk w b cs t):b<w.heap.size:=by
 rcases Nat.lt_or_ge b w.heap.size with h1|h1
 ·exact h1
 ·unfold Blk at h;rw[Array.getElem?_eq_none h1] at h;cases h
theorem Blk.rex {L:List Nat} {w w':World} {b:Nat} {cs:Array Value} {t:TypeId} (h:Blk w b cs t) (hr:Rex L w w') (hb:b∉L):Blk w' b cs t:=
 (hr.block b h.lt hb).trans h
theorem Blk.below {w w':World} {b:Nat} {cs:Array Value} {t:TypeId} (h:Blk w b cs t) (hr:Below w.heap.size w w'):Blk w' b cs t:=
 (hr.block b h.lt).trans h
theorem Blk.shape {L:List Nat} {w w':World} {b:Nat} {cs:Array Value} {t:TypeId} (h:Blk w b cs t) (hr:Rex L w w') (hb:b∈L):∃cs':Array Value,cs'.size=cs.size/\Blk w' b cs' t:=hr.shape b hb cs t _ h
theorem Blk.cell {w:World} {b:Nat} {cs:Array Value} {t:TypeId} (h:Blk w b cs t) (i:Nat):w.cell? ⟨b,i,none⟩=cs[i]? :=cell_of_row w b i cs t (0,0) h
theorem Blk.frozen {w:World} {b:Nat} {cs:Array Value} {t:TypeId} (h:Blk w b cs t) (i:Nat):w.frozen? ⟨b,i,none⟩=false:=frozen_of_row w b i cs t h
theorem nd_store (b:Nat) (old cs:Array Value) (v:Value) (t ty:TypeId) (p x:Operand) (ho:o.op= .store ty p x) (hg:o.guard=none) (hpr:Fi X i= [b]) (hn:b∉Bn X i) (hsz:cs.size=old.size)
  (hb:∀w,C w->∃old':Array Value,old'.size=old.size/\Blk w b old' t)
  (hE:∀(a:Act) (w:World),(∀s∈o.looksAt ops,Af a0 acc s (a.tmps.getD s undef) w)->a.eval p= .pointer (some ⟨b,0,none⟩)/\a.eval x=v)
  (hst:∀w old',old'.size=old.size->Blk w b old' t->(storeVar ty ⟨b,0,none⟩ v).run P w= .ok () (w.setRow b cs))
  (hr:Ao P ops C X a0 Fin (i+1) rest ((o.dst,fun _ w=>Blk w b cs t)::acc)):Ao P ops C X a0 Fin i (o::rest) acc:=by
 refine⟨fun _ w=>Blk w b cs t,fun v w w' hr h=>h.rex hr hn,fun a w hC hE'=>⟨fun _=> ?_,fun e=>by rw[Ee hg] at e;cases e⟩,hr⟩
 obtain⟨e1,e2⟩:=hE a w hE'
 obtain⟨old',h1,h2⟩:=hb w hC
 have:(execOp a.eval o).run P w= .ok .skip (w.setRow b cs):=by
  unfold execOp
  rw[ho]
  simp[e1,e2,Instr.storeAt,Instr.sureAddr,hst w old' h1 h2]
 rw[this]
 refine⟨⟨rfl,rfl,rfl,by simp,fun k hk hL=> ?_,fun k hk c t' f hc=> ?_⟩,setRow_heap w b old' cs t (0,0) h2,by unfold Au;rw[ho]⟩
 ·rw[hpr] at hL
  exact setRow_other w b k cs (by simpa using hL)
 ·rw[hpr] at hk
  obtain rfl:k=b:=by simpa using hk
  unfold Blk at h2
  rw[h2] at hc
  injection hc with hc
  injection hc with e1 e2 e3
  subst e1;subst e2;subst e3
  exact⟨cs,by rw[hsz,h1],setRow_heap w k old' cs t (0,0) h2⟩
theorem Pf (b:Nat) (old cs:Array Value) (t ty:TypeId) (p x:Operand) (ho:o.op= .store ty p x) (hg:o.guard=none) (hpr:Fi X i= [b]) (hn:b∉Bn X i) (hsz:cs.size=old.size)
  (hi:(P.info? ty).map (·.size)=some cs.size) (h1:cs.all (·.oneCell')=true)
  (hb:∀w,C w->∃old':Array Value,old'.size=old.size/\Blk w b old' t)
  (hE:∀(a:Act) (w:World),(∀s∈o.looksAt ops,Af a0 acc s (a.tmps.getD s undef) w)->a.eval p= .pointer (some ⟨b,0,none⟩)/\a.eval x= .agg cs)
  (hr:Ao P ops C X a0 Fin (i+1) rest ((o.dst,fun _ w=>Blk w b cs t)::acc)):Ao P ops C X a0 Fin i (o::rest) acc:=
 nd_store b old cs (.agg cs) t ty p x ho hg hpr hn hsz hb hE (fun w old' e h=>run_storeVar_row w b t ty old' cs h hi (by omega) h1) hr
def Ex (B:Nat) (cs:Array Value) (t:TypeId):Bi:=fun v w=>∃b,v= .pointer (some ⟨b,0,none⟩)/\B<=b/\Blk w b cs t
theorem closed_new {L:List Nat} (B:Nat) (cs:Array Value) (t:TypeId) (hL:∀x,x∈L->x<B):A9 L (Ex B cs t):=by
 rintro v w w' hr ⟨b,rfl,hb,h⟩
 exact⟨b,rfl,hb,h.rex hr fun hx=>by have:=hL b hx;omega⟩
theorem Dx (B:Nat) (cs:Array Value) (t:TypeId) (ho:o.op= .alloc t) (hg:o.guard=none) (hB:∀w,C w->B<=w.heap.size) (hL:∀x,x∈Bn X i->x<B)
  (hz:∀w,(Instr.alloc t true (.tuple #[])).run P w= .ok (.pointer (some ⟨w.heap.size,0,none⟩)) (w.alloc (.cells cs t)))
  (hr:Ao P ops C X a0 Fin (i+1) rest ((o.dst,Ex B cs t)::acc)):Ao P ops C X a0 Fin i (o::rest) acc:=by
 refine⟨Ex B cs t,closed_new B cs t hL,fun a w hC hE=>⟨fun _=> ?_,fun e=>by rw[Ee hg] at e;cases e⟩,hr⟩
 have:(execOp a.eval o).run P w= .ok (.value (.pointer (some ⟨w.heap.size,0,none⟩))) (w.alloc (.cells cs t)):=by
  unfold execOp
  rw[ho]
  simp[hz w]
 rw[this]
 refine⟨Rex.of_below ⟨rfl,rfl,rfl,by simp,fun k hk=>Go.RowKit.Below.heap_alloc w _ k hk⟩,⟨w.heap.size,rfl,hB w hC,heap_alloc_new w _⟩,fun _=>⟨w.heap.size,rfl,Nat.le_refl _,by simp⟩⟩
end
theorem Bd {P:Program} {c:Code} {Q:Exit->Act->World->Prop} {a:Act} {w:World} (F:World->Prop) (h:F w) (hr:∀W,F W->c.wp P Q a W):c.wp P Q a w:=hr w h
theorem Blk.new' {w:World} {b:Nat} {cs:Array Value} {t:TypeId} (h:w.heap.size=b):Blk (w.alloc (.cells cs t)) b cs t:=by subst h;exact heap_alloc_new w _
theorem Blk.alloc {w:World} {b:Nat} {cs:Array Value} {t:TypeId} (h:Blk w b cs t) (o:Obj):Blk (w.alloc o) b cs t:=(Go.RowKit.Below.heap_alloc w o b h.lt).trans h
theorem Blk.drew {w:World} {b:Nat} {cs:Array Value} {t:TypeId} (h:Blk w b cs t):Blk w.drew b cs t:=h
theorem Blk.set {w:World} {b:Nat} {cs:Array Value} {t:TypeId} (h:Blk w b cs t) (i:Nat) (v:Value):Blk (w.setCell ⟨b,i,none⟩ v) b (cs.setIfInBounds i v) t:=heap_setCell_same w b i cs t v h
theorem Blk.setO {w:World} {b g:Nat} {cs:Array Value} {t:TypeId} (h:Blk w b cs t) (hne:b≠g) (i:Nat) (v:Value):Blk (w.setCell ⟨g,i,none⟩ v) b cs t:=(heap_setCell_other w ⟨g,i,none⟩ b v hne).trans h
theorem Blk.calls {w w':World} {b:Nat} {cs:Array Value} {t:TypeId} (h:Blk w b cs t) (hb:Go.RowKit.Below w.heap.size w w'):Blk w' b cs t:=(hb.block b h.lt).trans h
theorem Blk.set2 {w:World} {b:Nat} {cs cs':Array Value} {t:TypeId} {i:Nat} {v:Value} (h:Blk w b cs t) (e:cs.setIfInBounds i v=cs'):Blk (w.setCell ⟨b,i,none⟩ v) b cs' t:=e▸h.set i v
theorem BelowCalls {n:Nat} {w W W':World} (h:Go.RowKit.Below n w W) (hb:Go.RowKit.Below W.heap.size W W') (hn:n<=W.heap.size):Go.RowKit.Below n w W':=h.trans (hb.mono hn)
theorem BelowRex {n:Nat} {L:List Nat} {w W W':World} (h:Go.RowKit.Below n w W) (hr:Rex L W W') (hn:n<=W.heap.size) (hL:∀x,x∈L->n<=x):Go.RowKit.Below n w W':=h.trans (hr.of_priv hn hL)
theorem Blk.new2 {w:World} {b:Nat} {cs:Array Value} {t:TypeId} {o:Obj} (h:w.heap.size=b) (e:o= .cells cs t):Blk (w.alloc o) b cs t:=e▸Blk.new' h
theorem Bo {w:World} {b:Nat} {cs:Array Value} {t:TypeId} (h:Blk w b cs t:=by repeat (first|with_reducible assumption|with_reducible (refine Blk.new2 (by first|rfl|(simp;done)|(simp;omega)|omega) ?_)|(show (_:Obj)=_;rfl)|with_reducible (refine Blk.alloc ?_ _)|with_reducible (apply Blk.set2)|with_reducible (refine Blk.setO ?_ (by first|omega|(simp;done)|(simp;omega)) _ _)|(show Array.setIfInBounds _ _ _=_;rfl)|with_reducible (refine Blk.calls ?_ (by assumption))|with_reducible (refine Blk.rex ?_ (by assumption) (by first|(simp;done)|(simp;omega))))):Blk w b cs t:=h
theorem Aa {n:Nat} {w W:World} (h:Go.RowKit.Below n w W:=by repeat (first|with_reducible assumption|with_reducible (exact Go.RowKit.Below.refl _ _)|with_reducible (refine Go.RowKit.Below.setCell ?_ (by first|omega|(simp;done)|(simp;omega)) _)|with_reducible (refine Go.RowKit.Below.alloc ?_ (by first|omega|(simp;done)|(simp;omega)) _)|with_reducible (refine BelowCalls ?_ (by assumption) (by first|omega|(simp;done)|(simp;omega)))|with_reducible (refine BelowRex ?_ (by assumption) (by first|omega|(simp;done)|(simp;omega)) (by first|(simp;done)|(simp;omega))))):Go.RowKit.Below n w W:=h
theorem Rex.alloc {L:List Nat} {w W:World} (h:Rex L w W) (o:Obj):Rex L w (W.alloc o):=h.trans (Rex.of_below ((Go.RowKit.Below.refl _ _).alloc (Nat.le_refl _) o))
theorem Rex.calls {L:List Nat} {w W W':World} (h:Rex L w W) (hb:Go.RowKit.Below W.heap.size W W'):Rex L w W':=h.trans (Rex.of_below hb)
theorem Rex.setOwn {L:List Nat} {w W:World} (h:Rex L w W) {g:Nat} {cs:Array Value} {t:TypeId} (hb:Blk W g cs t) (hg:g∈L) (i:Nat) (v:Value):Rex L w (W.setCell ⟨g,i,none⟩ v):=by
 refine h.trans ⟨rfl,rfl,rfl,by simp[World.setCell],fun k hk hL=>heap_setCell_other W ⟨g,i,none⟩ k v fun e=>hL (by simp at e;exact e▸hg),fun k hk c t' f hc=> ?_⟩
 by_cases e:k=g
 ·subst e
  unfold Blk at hb
  rw[hb] at hc
  injection hc with hc
  injection hc with e1 e2 e3
  subst e1;subst e2;subst e3
  exact⟨_,by simp,heap_setCell_same W k i cs t v hb⟩
 ·exact⟨c,rfl,(heap_setCell_other W ⟨g,i,none⟩ k v (by simpa using e)).trans hc⟩
theorem Rex.setNew {L:List Nat} {w W:World} (h:Rex L w W) {g:Nat} (hg:w.heap.size<=g) (i:Nat) (v:Value):Rex L w (W.setCell ⟨g,i,none⟩ v):=
 ⟨h.os,h.tape,h.output,by have:=h.size;simpa [World.setCell] using this,fun k hk hL=>(heap_setCell_other W ⟨g,i,none⟩ k v (by simp;omega)).trans (h.block k hk hL),fun k hk c t f hc=>by
  obtain⟨c',e,h'⟩:=h.shape k hk c t f hc
  have:=Di hc
  exact⟨c',e,(heap_setCell_other W ⟨g,i,none⟩ k v (by simp;omega)).trans h'⟩⟩
theorem rexAny {L:List Nat} {w W:World} (h:Rex L w W:=by repeat (first|with_reducible assumption|with_reducible (exact Rex.refl _ _)|with_reducible (refine Rex.setNew ?_ (by first|omega|(simp;done)|(simp;omega)) _ _)|with_reducible (refine Rex.alloc ?_ _)|with_reducible (refine Rex.calls ?_ (by assumption))|with_reducible (refine Rex.trans ?_ (by assumption))|with_reducible (apply Rex.setOwn)|exact Bo|(show _∈_;simp))):Rex L w W:=h
theorem Ac {a:Act} {F:(Nat->Value)->Act} (h:a=F (fun k=>a.tmps.getD k undef)):∃u,a=F u:=⟨_,h⟩
theorem Cu :Tryz.prog.follows .mixedOrders=true:=by kernel_rfl
def K6 (x y c:Int):Int:=(x+y+c)%18446744073709551616
def S8 (x y c:Int):Int:=(x+y+c)/18446744073709551616
def F5 (x y c:Int):Int:=(x-y-c)%18446744073709551616
def Ll (x y c:Int):Int:=if x<y+c then 1 else 0
theorem add64 (x y c:Int) (hx:0<=x) (hy:0<=y) (hc0:0<=c) (hc:c<=1) (w:World):
  (callFunc 166 #[.int .u64 x,.int .u64 y,.int .u64 c]).run Tryz.prog w= .ok (.value (.tuple #[.int .u64 (K6 x y c),.int .u64 (S8 x y c)])) w:=by
 rw[run_callFunc_extern (e:=add64Entry) Tryz.func166 (by kernel_rfl) (by kernel_rfl) (by kernel_rfl) (by kernel_rfl),run_add64 x y c hx hy hc0 hc w]
 rfl
def Mx:Array Value->Sem Value:=fun args=>do
 let (x,y,b)<-Extern.MathBitsCarry.three "Sub64" args
 pure (Extern.MathBitsCarry.pair ((x+Extern.MathBitsCarry.m64-y-b)%Extern.MathBitsCarry.m64) (if x<y+b then 1 else 0))
theorem run_sub64 {P:Program} (x y c:Int) (hx:0<=x) (hx':x<18446744073709551616) (hy:0<=y) (hy':y<18446744073709551616) (hc0:0<=c) (hc:c<=1) (w:World):
  (Mx #[.int .u64 x,.int .u64 y,.int .u64 c]).run P w= .ok (.tuple #[.int .u64 (F5 x y c),.int .u64 (Ll x y c)]) w:=by
 have key:∀k:Nat,k<=1->(Mx #[.int .u64 x,.int .u64 y,.int .u64 (k:Int)]).run P w=
   .ok (Extern.MathBitsCarry.pair ((x.toNat+Extern.MathBitsCarry.m64-y.toNat-k)%Extern.MathBitsCarry.m64) (if x.toNat<y.toNat+k then 1 else 0)) w:=by
  intro k hk
  have:k=0∨k=1:=by omega
  rcases this with rfl|rfl<;>rfl
 obtain⟨k,rfl⟩:=Int.eq_ofNat_of_zero_le hc0
 rw[key k (by omega)]
 obtain⟨X,rfl⟩:=Int.eq_ofNat_of_zero_le hx
 obtain⟨Y,rfl⟩:=Int.eq_ofNat_of_zero_le hy
 have e1:Int.ofNat ((X+2^64-Y-k)%2^64)=F5 X Y k:=by
  unfold F5
  simp only[Int.ofNat_eq_natCast]
  omega
 have e2:Int.ofNat (if X<Y+k then 1 else 0)=Ll X Y k:=by
  unfold Ll
  split<;>split<;>first|rfl|omega
 simp only[Extern.MathBitsCarry.pair,Extern.MathBitsCarry.m64,Int.toNat_natCast,e1,e2]
theorem sub64 (x y c:Int) (hx:0<=x) (hx':x<18446744073709551616) (hy:0<=y) (hy':y<18446744073709551616) (hc0:0<=c) (hc:c<=1) (w:World):
  (callFunc 167 #[.int .u64 x,.int .u64 y,.int .u64 c]).run Tryz.prog w= .ok (.value (.tuple #[.int .u64 (F5 x y c),.int .u64 (Ll x y c)])) w:=by
 rw[run_callFunc_extern (e:=Mx) Tryz.func167 (by kernel_rfl) (by kernel_rfl) (by kernel_rfl) (by kernel_rfl),run_sub64 x y c hx hx' hy hy' hc0 hc w]
 rfl
theorem Ge (x:Int):0<=IntKind.u64.wrap x/\IntKind.u64.wrap x<18446744073709551616:=by
 simp[IntKind.wrap,IntKind.bits,IntKind.signed];omega
theorem C4 (x:Int):IntKind.u64.wrap x=x%18446744073709551616:=by
 simp[IntKind.wrap,IntKind.bits,IntKind.signed]
theorem Ak (x:Int):wrap64 x=(x+9223372036854775808)%18446744073709551616-9223372036854775808:=by unfold wrap64;rfl
theorem sumC_bd (x y:Int) (hx:0<=x) (hx':x<18446744073709551616) (hy:0<=y) (hy':y<18446744073709551616):0<=S8 x y 0/\S8 x y 0<=1:=by
 unfold S8;omega
theorem difC_bd (x y c:Int):0<=Ll x y c/\Ll x y c<=1:=by
 unfold Ll;split<;>decide
/-! ### What a function hands back that lies in a variable -/
section
variable {P:Program}
theorem Yc {w:World} {g:Nat} {ty:TypeId} {cs:Array Value} {t:TypeId} {d:TypeDesc} (hg:Blk w g cs t) (hu:P.underlying ty=some d) (hd:(match d with| .struct _| .array _ _=>true|_=>false)=true)
  (hi:(P.info? ty).map (·.size)=some cs.size):(loadVar ty ⟨g,0,none⟩).run P w= .ok (.agg cs) w:=run_loadVar_row w g t ty cs (0,0) d hg hu hd hi
theorem M0 {fn:Func} {p t1:Tmp} {ty:TypeId} (h:fn.results= #[.cell p ty,.tmp t1]) {tmps:Array Value} {w:World} {g:Nat} {t:TypeId} {cs:Array Value} {d:TypeDesc}
  (hp:tmps.getD p undef= .pointer (some ⟨g,0,none⟩)) (hg:Blk w g cs t) (hu:P.underlying ty=some d) (hd:(match d with| .struct _| .array _ _=>true|_=>false)=true)
  (hi:(P.info? ty).map (·.size)=some cs.size):(results fn tmps).run P w= .ok (.tuple #[.agg cs,tmps.getD t1 undef]) w:=by
 have hp':tmps[p]?.getD undef= .pointer (some ⟨g,0,none⟩):=by simpa using hp
 simp[results,h,hp',asAddr,Yc hg hu hd hi]
end
attribute [local simp] Oper.looksAt Op.operands Call.operands Af Det Am
def hiW (n:Int):Int:=n/18446744073709551616
def loW (n:Int):Int:=n%18446744073709551616
def Ch (n:Int):Prop:= -170141183460469231731687303715884105728<=n/\n<170141183460469231731687303715884105728
instance (n : Int) : Decidable (Ch n) := by unfold Ch; infer_instance
def B7 (n:Int):Value:= .agg #[.int .i64 (hiW n),.int .u64 (loW n)]
def Bl (n:Int):Int:=(n+170141183460469231731687303715884105728)%340282366920938463463374607431768211456-170141183460469231731687303715884105728
def inW (n:Int):Bool:=decide (Ch n)
theorem Ez {n:Int} (h:Ch n):Bl n=n:=by unfold Bl;obtain⟨_,_⟩:=h;omega
theorem R5 {n:Int} (h:Ch n):inW n=true:=by simp[inW,h]
theorem Lg (n:Int):0<=loW n/\loW n<18446744073709551616:=by unfold loW;omega
theorem Vj (n:Int):Ch (Bl n):=by unfold Ch Bl;omega
theorem W128_small {n:Int} (h: -9223372036854775808<=n/\n<=9223372036854775807):Ch n:=by unfold Ch;omega
theorem sum_hi (a b:Int) (ha:Ch a) (hb:Ch b):wrap64 (K6 (IntKind.u64.wrap (hiW a)) (IntKind.u64.wrap (hiW b)) (S8 (loW a) (loW b) 0))=hiW (Bl (a+b)):=by
 obtain⟨_,_⟩:=ha;obtain⟨_,_⟩:=hb
 rw[Ak,C4,C4];unfold K6 S8 hiW loW Bl;omega
theorem sum_lo (a b:Int):K6 (loW a) (loW b) 0=loW (Bl (a+b)):=by unfold K6 loW Bl;omega
theorem sum_fits (a b:Int) (ha:Ch a) (hb:Ch b):(!decide (hiW a<0)==decide (hiW b<0)||decide (hiW (Bl (a+b))<0)==decide (hiW a<0))=inW (a+b):=by
 have e1:(hiW a<0)↔a<0:=by unfold hiW;omega
 have e2:(hiW b<0)↔b<0:=by unfold hiW;omega
 have e3:(hiW (Bl (a+b))<0)↔Bl (a+b)<0:=by unfold hiW;omega
 simp only[e1,e2,e3,inW]
 obtain⟨_,_⟩:=ha;obtain⟨_,_⟩:=hb
 by_cases h1:a<0<;>by_cases h2:b<0<;>by_cases h3:Bl (a+b)<0<;>by_cases h4:Ch (a+b)<;>simp[h1,h2,h3,h4]<;>unfold Ch Bl at* <;>omega
theorem dif_hi (a b:Int) (ha:Ch a) (hb:Ch b):wrap64 (F5 (IntKind.u64.wrap (hiW a)) (IntKind.u64.wrap (hiW b)) (Ll (loW a) (loW b) 0))=hiW (Bl (a-b)):=by
 obtain⟨_,_⟩:=ha;obtain⟨_,_⟩:=hb
 rw[Ak,C4,C4];unfold F5 Ll hiW loW Bl;split<;>omega
theorem dif_lo (a b:Int):F5 (loW a) (loW b) 0=loW (Bl (a-b)):=by unfold F5 loW Bl;omega
theorem dif_fits (a b:Int) (ha:Ch a) (hb:Ch b):(decide (hiW a<0)==decide (hiW b<0)||decide (hiW (Bl (a-b))<0)==decide (hiW a<0))=inW (a-b):=by
 have e1:(hiW a<0)↔a<0:=by unfold hiW;omega
 have e2:(hiW b<0)↔b<0:=by unfold hiW;omega
 have e3:(hiW (Bl (a-b))<0)↔Bl (a-b)<0:=by unfold hiW;omega
 simp only[e1,e2,e3,inW]
 obtain⟨_,_⟩:=ha;obtain⟨_,_⟩:=hb
 by_cases h1:a<0<;>by_cases h2:b<0<;>by_cases h3:Bl (a-b)<0<;>by_cases h4:Ch (a-b)<;>simp[h1,h2,h3,h4]<;>unfold Ch Bl at* <;>omega
theorem below4 (w:World) (o1 o2 o3 o4:Obj):Below w.heap.size w ((((w.alloc o1).alloc o2).alloc o3).alloc o4):=
 ((((Below.refl _ _).alloc (Nat.le_refl _) _).alloc (by simp) _).alloc (by simp;omega) _).alloc (by simp;omega) _
theorem c_sum (a b:Int) (w:World) (ha:Ch a) (hb:Ch b):
  Cb 139 #[B7 a,B7 b] w (.tuple #[B7 (Bl (a+b)),.bool (inW (a+b))]):=by
 have E1:=sum_hi a b ha hb
 have E2:=sum_lo a b
 have E3:=sum_fits a b ha hb
 have L1:=Lg a
 have L2:=Lg b
 have U1:=Ge (hiW a)
 have U2:=Ge (hiW b)
 unfold B7
 generalize hiW a=ah at*
 generalize hiW b=bh at*
 generalize loW a=al at*
 generalize loW b=bl at*
 rw[<-E3,<-E1,<-E2]
 clear E1 E2 E3 ha hb
 have hc:=sumC_bd al bl L1.1 L1.2 L2.1 L2.2
 have a1:=add64 al bl 0 L1.1 L2.1 (by decide) (by decide)
 have a2:=add64 (IntKind.u64.wrap ah) (IntKind.u64.wrap bh) (S8 al bl 0) U1.1 U2.1 hc.1 hc.2
 clear hc L1 L2 U1 U2
 go_enter Tryz.func139,Tryz.ntmps139
 go_wp2
 clear a1 a2
 refine Bd (fun W=>Below w.heap.size w W/\Blk W w.heap.size #[ah,.int .u64 al] 89/\Blk W (w.heap.size+1) #[bh,.int .u64 bl] 89/\Blk W (w.heap.size+1+1) #[.int .i64 0,.int .u64 0] 89/\Blk W (w.heap.size+1+1+1) #[.int .i64 (wrap64 (K6 (IntKind.u64.wrap ah) (IntKind.u64.wrap bh) (S8 al bl 0))),.int .u64 (K6 al bl 0)] 89) ?_ ?_
 ·exact⟨below4 _ _ _ _ _,(by repeat (first|(refine Blk.new' ?_;simp;done)|refine Blk.alloc ?_ _)),(by repeat (first|(refine Blk.new' ?_;simp;done)|refine Blk.alloc ?_ _)),(by repeat (first|(refine Blk.new' ?_;simp;done)|refine Blk.alloc ?_ _)),(by repeat (first|(refine Blk.new' ?_;simp;done)|refine Blk.alloc ?_ _))⟩
 rintro W ⟨hW,b1,b2,b3,b4⟩
 refine Az 19 51 [(17,w.heap.size+1+1)] (fun W'=>Rex [w.heap.size+1+1] W W'/\Blk W' w.heap.size #[ah,.int .u64 al] 89/\Blk W' (w.heap.size+1) #[bh,.int .u64 bl] 89/\Blk W' (w.heap.size+1+1+1) #[.int .i64 (wrap64 (K6 (IntKind.u64.wrap ah) (IntKind.u64.wrap bh) (S8 al bl 0))),.int .u64 (K6 al bl 0)] 89) Cu (by kernel_rfl) rfl ⟨(Rex.refl _ _).drew,b1,b2,b4⟩ (fun w w' ⟨h0,h1,h2,h3⟩ hr=>⟨h0.trans hr,h1.rex hr (by simp<;>omega),h2.rex hr (by simp<;>omega),h3.rex hr (by simp<;>omega)⟩) (fun c a d v w h=>by cases d<;>exact h) ?_
 iterate 9
  apply An (hg:=rfl) (hal:=rfl)
  ·intro a W' hC hE
   obtain⟨_,k1,k2,k3⟩:=hC
   have k1:=k1.cell
   have k2:=k2.cell
   have k3:=k3.cell
   first
    |(simp at hE;simp[go_sem,Act.eval,iw,hE,k1,k2,k3];try rfl)
    |(clear hE;simp[go_sem,Act.eval,iw,k1,k2,k3];try rfl)
 iterate 7
  apply Ai (p:=true) (hg:=rfl) (hd:=rfl) (hal:=rfl)
  ·intro v W' h
   simp[Af,Det,Am] at h
   simp
   exact h
  ·intro hp hx a W' hC hE
   obtain⟨_,k1,k2,k3⟩:=hC
   have k1:=k1.cell
   have k2:=k2.cell
   have k3:=k3.cell
   simp[hx] at hE
   simp[go_sem,Act.eval,iw,hE,k1,k2,k3]
   try rfl
 apply Ek (ho:=rfl) (hg:=rfl)
 ·intro v W' h
  simp at h
  exact h
 ·intro v W' h hx
  simp[hx] at h
  exact h
 apply Pf (w.heap.size+1+1) #[.int .i64 0,.int .u64 0] #[.int .i64 (wrap64 (K6 (IntKind.u64.wrap ah) (IntKind.u64.wrap bh) (S8 al bl 0))),.int .u64 (K6 al bl 0)] 89 89 _ _ rfl rfl rfl (by simp[Bn]) rfl (by kernel_rfl) (by simp[Value.oneCell'])
 ·exact fun W' hC=>b3.shape hC.1 (by simp)
 ·intro a W' hE
  simp[Oper.looksAt,Op.operands,Af,Det] at hE
  simp[Act.eval,hE]
 iterate 1
  apply An (hg:=rfl) (hal:=rfl)
  ·intro a W' hC hE
   obtain⟨_,k1,k2,k3⟩:=hC
   have k1:=k1.cell
   have k2:=k2.cell
   have k3:=k3.cell
   first
    |(simp at hE;simp[go_sem,Act.eval,iw,hE,k1,k2,k3];try rfl)
    |(clear hE;simp[go_sem,Act.eval,iw,k1,k2,k3];try rfl)
 rintro W2 ⟨hR,c1,c2,c3⟩
 simp only[A6,Det,forall_eq]
 intros
 repeat (rename Am _ _ _ _=>hgd;clear hgd)
 simp only[nS]
 refine wpList_nil ?_
 go_wp2
 exact bodyPost_ret (M0 (d:=(Tryz.prog.underlying 89).getD default) rfl rfl (by assumption) (by kernel_rfl) (by kernel_rfl) (by kernel_rfl)) rfl ⟨rfl,hW.trans (hR.of_priv hW.size)⟩
theorem Hi (a b:Int) (w:World) (ha:Ch a) (hb:Ch b):
  Cb 141 #[B7 a,B7 b] w (.tuple #[B7 (Bl (a-b)),.bool (inW (a-b))]):=by
 have E1:=dif_hi a b ha hb
 have E2:=dif_lo a b
 have E3:=dif_fits a b ha hb
 have L1:=Lg a
 have L2:=Lg b
 have U1:=Ge (hiW a)
 have U2:=Ge (hiW b)
 unfold B7
 generalize hiW a=ah at*
 generalize hiW b=bh at*
 generalize loW a=al at*
 generalize loW b=bl at*
 rw[<-E3,<-E1,<-E2]
 clear E1 E2 E3 ha hb
 have hc:=difC_bd al bl 0
 have a1:=sub64 al bl 0 L1.1 L1.2 L2.1 L2.2 (by decide) (by decide)
 have a2:=sub64 (IntKind.u64.wrap ah) (IntKind.u64.wrap bh) (Ll al bl 0) U1.1 U1.2 U2.1 U2.2 hc.1 hc.2
 clear hc L1 L2 U1 U2
 go_enter Tryz.func141,Tryz.ntmps141
 go_wp2
 clear a1 a2
 refine Bd (fun W=>Below w.heap.size w W/\Blk W w.heap.size #[ah,.int .u64 al] 89/\Blk W (w.heap.size+1) #[bh,.int .u64 bl] 89/\Blk W (w.heap.size+1+1) #[.int .i64 0,.int .u64 0] 89/\Blk W (w.heap.size+1+1+1) #[.int .i64 (wrap64 (F5 (IntKind.u64.wrap ah) (IntKind.u64.wrap bh) (Ll al bl 0))),.int .u64 (F5 al bl 0)] 89) ?_ ?_
 ·exact⟨below4 _ _ _ _ _,(by repeat (first|(refine Blk.new' ?_;simp;done)|refine Blk.alloc ?_ _)),(by repeat (first|(refine Blk.new' ?_;simp;done)|refine Blk.alloc ?_ _)),(by repeat (first|(refine Blk.new' ?_;simp;done)|refine Blk.alloc ?_ _)),(by repeat (first|(refine Blk.new' ?_;simp;done)|refine Blk.alloc ?_ _))⟩
 rintro W ⟨hW,b1,b2,b3,b4⟩
 refine Az 19 51 [(17,w.heap.size+1+1)] (fun W'=>Rex [w.heap.size+1+1] W W'/\Blk W' w.heap.size #[ah,.int .u64 al] 89/\Blk W' (w.heap.size+1) #[bh,.int .u64 bl] 89/\Blk W' (w.heap.size+1+1+1) #[.int .i64 (wrap64 (F5 (IntKind.u64.wrap ah) (IntKind.u64.wrap bh) (Ll al bl 0))),.int .u64 (F5 al bl 0)] 89) Cu (by kernel_rfl) rfl ⟨(Rex.refl _ _).drew,b1,b2,b4⟩ (fun w w' ⟨h0,h1,h2,h3⟩ hr=>⟨h0.trans hr,h1.rex hr (by simp<;>omega),h2.rex hr (by simp<;>omega),h3.rex hr (by simp<;>omega)⟩) (fun c a d v w h=>by cases d<;>exact h) ?_
 iterate 9
  apply An (hg:=rfl) (hal:=rfl)
  ·intro a W' hC hE
   obtain⟨_,k1,k2,k3⟩:=hC
   have k1:=k1.cell
   have k2:=k2.cell
   have k3:=k3.cell
   first
    |(simp at hE;simp[go_sem,Act.eval,iw,hE,k1,k2,k3];try rfl)
    |(clear hE;simp[go_sem,Act.eval,iw,k1,k2,k3];try rfl)
 iterate 7
  apply Ai (p:=true) (hg:=rfl) (hd:=rfl) (hal:=rfl)
  ·intro v W' h
   simp[Af,Det,Am] at h
   simp
   exact h
  ·intro hp hx a W' hC hE
   obtain⟨_,k1,k2,k3⟩:=hC
   have k1:=k1.cell
   have k2:=k2.cell
   have k3:=k3.cell
   simp[hx] at hE
   simp[go_sem,Act.eval,iw,hE,k1,k2,k3]
   try rfl
 apply Ek (ho:=rfl) (hg:=rfl)
 ·intro v W' h
  simp at h
  exact h
 ·intro v W' h hx
  simp[hx] at h
  exact h
 apply Pf (w.heap.size+1+1) #[.int .i64 0,.int .u64 0] #[.int .i64 (wrap64 (F5 (IntKind.u64.wrap ah) (IntKind.u64.wrap bh) (Ll al bl 0))),.int .u64 (F5 al bl 0)] 89 89 _ _ rfl rfl rfl (by simp[Bn]) rfl (by kernel_rfl) (by simp[Value.oneCell'])
 ·exact fun W' hC=>b3.shape hC.1 (by simp)
 ·intro a W' hE
  simp[Oper.looksAt,Op.operands,Af,Det] at hE
  simp[Act.eval,hE]
 iterate 1
  apply An (hg:=rfl) (hal:=rfl)
  ·intro a W' hC hE
   obtain⟨_,k1,k2,k3⟩:=hC
   have k1:=k1.cell
   have k2:=k2.cell
   have k3:=k3.cell
   first
    |(simp at hE;simp[go_sem,Act.eval,iw,hE,k1,k2,k3];try rfl)
    |(clear hE;simp[go_sem,Act.eval,iw,k1,k2,k3];try rfl)
 rintro W2 ⟨hR,c1,c2,c3⟩
 simp only[A6,Det,forall_eq]
 intros
 repeat (rename Am _ _ _ _=>hgd;clear hgd)
 simp only[nS]
 refine wpList_nil ?_
 go_wp2
 exact bodyPost_ret (M0 (d:=(Tryz.prog.underlying 89).getD default) rfl rfl (by assumption) (by kernel_rfl) (by kernel_rfl) (by kernel_rfl)) rfl ⟨rfl,hW.trans (hR.of_priv hW.size)⟩
end Go.Proofs.YtdeghcgakkhbmaaGreat
namespace Go.Proofs.YtdeghcgakkhbmaaGreat
open Go.RowKit
def wv (f:Bool) (n:Int):Int:=if f=true then n else 0
def we (f:Bool):Int:=if f=true then 0 else 5
theorem Dc {W w1:World} (hb:Below W.heap.size W w1):(∀b o,b<W.heap.size->w1.cell? ⟨b,o,none⟩=W.cell? ⟨b,o,none⟩)/\(∀b o,b<W.heap.size->w1.frozen? ⟨b,o,none⟩=W.frozen? ⟨b,o,none⟩):=
 ⟨fun b o h=>hb.cell (p:=⟨b,o,none⟩) h,fun b o h=>hb.frozen (p:=⟨b,o,none⟩) h⟩
theorem wide0 :B7 0= .agg #[.int .i64 0,.int .u64 0]:=by rfl
theorem c_told (a:Int) (f:Bool) (w:World):
  Cb 138 #[B7 a,.bool f] w (.tuple #[B7 (wv f a),.int .i64 (we f)]):=by
 cases f with
 |true=>
  have e1:wv true a=a:=rfl
  have e2:we true=0:=rfl
  rw[e1,e2]
  unfold B7
  generalize hiW a=ah
  generalize loW a=al
  clear e1 e2
  go_enter Tryz.func138,Tryz.ntmps138
  go_wp2
  refine bodyPost_ret (v:= .tuple #[.agg #[ah,.int .u64 al],.int .i64 0]) (by simp[results,Tryz.results138,go_sem]) rfl ⟨rfl,?_⟩
  exact((Below.refl _ _).alloc (Nat.le_refl _) _).alloc (by simp) _
 |false=>
  have e1:wv false a=0:=rfl
  have e2:we false=5:=rfl
  rw[e1,e2,wide0]
  unfold B7
  generalize hiW a=ah
  generalize loW a=al
  clear e1 e2
  go_enter Tryz.func138,Tryz.ntmps138
  go_wp2
  refine bodyPost_ret (v:= .tuple #[.agg #[.int .i64 0,.int .u64 0],.int .i64 5]) (by simp[results,Tryz.results138,go_sem]) rfl ⟨rfl,?_⟩
  exact(((Below.refl _ _).alloc (Nat.le_refl _) _).alloc (by simp) _).alloc (by simp;omega) _
theorem c_Of (n:Int) (w:World) (hn: -9223372036854775808<=n/\n<=9223372036854775807):
  Cb 88 #[n] w (B7 n):=by
 unfold B7
 go_enter Tryz.func88,Tryz.ntmps88
 go_wp2
 have e1:n/9223372036854775808=hiW n:=by unfold hiW;omega
 have e2:IntKind.u64.wrap n=loW n:=C4 n
 rw[e1,e2]
 exact bodyPost_ret (v:= .agg #[.int .i64 (hiW n),.int .u64 (loW n)]) (by simp[results,Tryz.results88,go_sem]) rfl ⟨rfl,(Below.refl _ _).alloc (Nat.le_refl _) _⟩
theorem c_Add (a b:Int) (w:World) (ha:Ch a) (hb:Ch b):
  Cb 87 #[B7 a,B7 b] w (.tuple #[B7 (wv (inW (a+b)) (Bl (a+b))),.int .i64 (we (inW (a+b)))]):=by
 have c1:=fun w=>c_sum a b w ha hb
 have c2:=fun f w=>c_told (Bl (a+b)) f w
 clear ha hb
 unfold B7 at*
 generalize inW (a+b)=f at*
 go_enter Tryz.func87,Tryz.ntmps87
 go_wp2_with fail
 refine(c1 _).mono ?_
 rintro e w1 ⟨rfl,hb1⟩
 obtain⟨hc1,hf1⟩:=Dc hb1
 have hz1:=hb1.size
 simp at hz1
 go_wp2_with fail
 refine(c2 _ _).mono ?_
 rintro e w2 ⟨rfl,hb2⟩
 obtain⟨hc2,hf2⟩:=Dc hb2
 have hz2:=hb2.size
 clear c1 c2
 have z0:w.heap.size<w2.heap.size:=by omega
 have z1:w.heap.size+1<w2.heap.size:=by omega
 have z2:w.heap.size+1+1<w2.heap.size:=by omega
 have y0:w.heap.size<w1.heap.size:=by omega
 have y1:w.heap.size+1<w1.heap.size:=by omega
 have y2:w.heap.size+1+1<w1.heap.size:=by omega
 go_wp2
 refine bodyPost_ret (v:= .tuple #[.agg #[.int .i64 (hiW (wv f (Bl (a+b)))),.int .u64 (loW (wv f (Bl (a+b))))],.int .i64 (we f)]) (by simp[results,Tryz.results87,go_sem,hc1,hc2,y0,y1,y2]) rfl ⟨rfl,?_⟩
 have h0:Below w.heap.size w w1:=((((Below.refl _ _).alloc (Nat.le_refl _) _).alloc (by simp) _).alloc (by simp;omega) _).trans (hb1.mono (by simp;omega))
 exact(((h0.trans (hb2.mono (by omega))).setCell (by simp;omega) _).setCell (by simp;omega) _)
def Oi (a b:Int):Int:=if a=b then 0 else if a<b then-1 else 1
theorem cmpI_eq {a b:Int} (h:a=b):Oi a b=0:=by simp[Oi,h]
theorem cmpI_lt {a b:Int} (h:a<b):Oi a b= -1:=by unfold Oi;rw[if_neg (by omega),if_pos h]
theorem cmpI_gt {a b:Int} (h:b<a):Oi a b=1:=by unfold Oi;rw[if_neg (by omega),if_neg (by omega)]
theorem cmp_eq (ah al bh bl:Int) (w:World):
  Cb 93 #[.agg #[ah,.int .u64 al],.agg #[ah,.int .u64 al]] w (.int .i64 0):=by
 go_enter Tryz.func93,Tryz.ntmps93
 go_wp2
 all_goals (go_ret;exact⟨rfl,((Below.refl _ _).alloc (Nat.le_refl _) _).alloc (by simp) _⟩)
theorem cmp_lt (ah al bh bl:Int) (w:World) (h:ah<bh):
  Cb 93 #[.agg #[ah,.int .u64 al],.agg #[bh,.int .u64 bl]] w (.int .i64 (-1)):=by
 go_enter Tryz.func93,Tryz.ntmps93
 go_wp2
 all_goals (go_ret;exact⟨rfl,((Below.refl _ _).alloc (Nat.le_refl _) _).alloc (by simp) _⟩)
theorem cmp_gt (ah al bh bl:Int) (w:World) (h:bh<ah):
  Cb 93 #[.agg #[ah,.int .u64 al],.agg #[bh,.int .u64 bl]] w (.int .i64 1):=by
 go_enter Tryz.func93,Tryz.ntmps93
 go_wp2
 all_goals (go_ret;exact⟨rfl,((Below.refl _ _).alloc (Nat.le_refl _) _).alloc (by simp) _⟩)
theorem cmp_ltl (ah al bh bl:Int) (w:World) (h:al<bl):
  Cb 93 #[.agg #[ah,.int .u64 al],.agg #[ah,.int .u64 bl]] w (.int .i64 (-1)):=by
 go_enter Tryz.func93,Tryz.ntmps93
 go_wp2
 all_goals (go_ret;exact⟨rfl,((Below.refl _ _).alloc (Nat.le_refl _) _).alloc (by simp) _⟩)
theorem cmp_gtl (ah al bh bl:Int) (w:World) (h:bl<al):
  Cb 93 #[.agg #[ah,.int .u64 al],.agg #[ah,.int .u64 bl]] w (.int .i64 1):=by
 go_enter Tryz.func93,Tryz.ntmps93
 go_wp2
 all_goals (go_ret;exact⟨rfl,((Below.refl _ _).alloc (Nat.le_refl _) _).alloc (by simp) _⟩)
theorem Vg (a b:Int) (w:World):
  Cb 93 #[B7 a,B7 b] w (.int .i64 (Oi a b)):=by
 unfold B7
 have ea:a=hiW a*18446744073709551616+loW a:=by unfold hiW loW;omega
 have eb:b=hiW b*18446744073709551616+loW b:=by unfold hiW loW;omega
 have la:=Lg a
 have lb:=Lg b
 rcases Int.lt_trichotomy (hiW a) (hiW b) with h|h|h
 ·rw[cmpI_lt (by omega)];exact cmp_lt _ _ _ _ w h
 ·rcases Int.lt_trichotomy (loW a) (loW b) with h'|h'|h'
  ·rw[cmpI_lt (by omega),<-h];exact cmp_ltl _ _ (hiW a) _ w h'
  ·rw[cmpI_eq (by omega),<-h,<-h'];exact cmp_eq _ _ (hiW a) (loW a) w
  ·rw[cmpI_gt (by omega),<-h];exact cmp_gtl _ _ (hiW a) _ w h'
 ·rw[cmpI_gt (by omega)];exact cmp_gt _ _ _ _ w h
/-! ### math/bits.Mul64 -/
theorem Y4 (a:Nat) (ha:a<18446744073709551616):bits .and .u64 (a:Int) 4294967295=((a%4294967296:Nat):Int):=by
 rw[<-Nat.and_two_pow_sub_one_eq_mod a 32]
 exact bits_and_u64_nat a 4294967295 ha (by omega)
theorem div32 (a:Nat):(a:Int)/4294967296=((a/4294967296:Nat):Int):=by omega
theorem u64_mod (a:Nat):IntKind.u64.wrap (a:Int)=((a%18446744073709551616:Nat):Int):=by rw[C4];omega
theorem Gt (a:Nat) (ha:a<18446744073709551616):IntKind.u64.wrap (a:Int)=(a:Int):=by rw[C4];omega
theorem mul64_nat (x y:Nat) (hx:x<18446744073709551616) (hy:y<18446744073709551616) (w:World):
  Calls Tryz.prog 140 #[.int .u64 x,.int .u64 y] w fun e w'=>e= .returned (.tuple #[.int .u64 ((x*y/18446744073709551616:Nat):Int),.int .u64 ((x*y%18446744073709551616:Nat):Int)])/\w'=w:=by
 obtain⟨b1,b2,b3,hhi⟩:=Lib.mul64_hi x y hx hy
 have p1:=Lib.half_mul_le (a:=x/4294967296) (b:=y/4294967296) (by omega) (by omega)
 have p2:=Lib.half_mul_le (a:=x/4294967296) (b:=y%4294967296) (by omega) (by omega)
 have p3:=Lib.half_mul_le (a:=x%4294967296) (b:=y/4294967296) (by omega) (by omega)
 have q1:x/4294967296*(y/4294967296)<18446744073709551616:=by omega
 have q2:x/4294967296*(y%4294967296)<18446744073709551616:=by omega
 have q3:x%4294967296*(y/4294967296)<18446744073709551616:=by omega
 have q4:x/4294967296*(y/4294967296)+(x/4294967296*(y%4294967296)+x%4294967296*(y%4294967296)/4294967296)/4294967296<18446744073709551616:=by omega
 have q5:x/4294967296*(y/4294967296)+(x/4294967296*(y%4294967296)+x%4294967296*(y%4294967296)/4294967296)/4294967296+((x/4294967296*(y%4294967296)+x%4294967296*(y%4294967296)/4294967296)%4294967296+x%4294967296*(y/4294967296))/4294967296<18446744073709551616:=by omega
 go_enter Tryz.func140,Tryz.ntmps140
 go_wp2
 simp only[Y4 x hx,Y4 y hy,div32,<-Int.natCast_mul,<-Int.natCast_add,Gt _ b1,Gt _ q2,Gt _ b2,Y4 _ b2,Gt _ q3,Gt _ b3,Gt _ q1,Gt _ q4,Gt _ q5,u64_mod (x*y)]
 rw[hhi]
 go_ret2
 exact⟨rfl,rfl⟩
def Fb (x y:Int):Int:=x*y/18446744073709551616
def Kt (x y:Int):Int:=x*y%18446744073709551616
def I64 (a:Int):Prop:= -9223372036854775808<=a/\a<=9223372036854775807
def U64 (a:Int):Prop:=0<=a/\a<18446744073709551616
theorem Qv (x y:Int) (hx:U64 x) (hy:U64 y) (w:World):
  Calls Tryz.prog 140 #[.int .u64 x,.int .u64 y] w fun e w'=>e= .returned (.tuple #[.int .u64 (Fb x y),.int .u64 (Kt x y)])/\w'=w:=by
 obtain⟨x,rfl⟩:=Int.eq_ofNat_of_zero_le hx.1
 obtain⟨y,rfl⟩:=Int.eq_ofNat_of_zero_le hy.1
 have h1:=hx.2;have h2:=hy.2
 have e:=mul64_nat x y (by omega) (by omega) w
 unfold Fb Kt
 simpa using e
theorem Rv {a b:Int} (ha:I64 a) (hb:I64 b): -85070591730234615865843651857942052864<=a*b/\a*b<=85070591730234615865843651857942052864:=by
 have h1:(a*b).natAbs=a.natAbs*b.natAbs:=Int.natAbs_mul a b
 have h2:a.natAbs*b.natAbs<=9223372036854775808*9223372036854775808:=Nat.mul_le_mul (by obtain⟨_,_⟩:=ha;omega) (by obtain⟨_,_⟩:=hb;omega)
 omega
theorem W128_mul {a b:Int} (ha:I64 a) (hb:I64 b):Ch (a*b):=by
 have:=Rv ha hb;unfold Ch;omega
theorem mul_pp (a b:Int) (ha:I64 a) (hb:I64 b) (h1:0<=a) (h2:0<=b):wrap64 (Fb (IntKind.u64.wrap a) (IntKind.u64.wrap b))=hiW (a*b):=by
 have:=Rv ha hb
 obtain⟨_,_⟩:=ha;obtain⟨_,_⟩:=hb
 have e1:IntKind.u64.wrap a=a:=by rw[C4];omega
 have e2:IntKind.u64.wrap b=b:=by rw[C4];omega
 rw[e1,e2,Ak];unfold Fb hiW;generalize a*b=p at*;omega
theorem mul_np (a b:Int) (ha:I64 a) (hb:I64 b) (h1:a<0) (h2:0<=b):wrap64 (IntKind.u64.wrap (Fb (IntKind.u64.wrap a) (IntKind.u64.wrap b)-IntKind.u64.wrap b))=hiW (a*b):=by
 have:=Rv ha hb
 obtain⟨_,_⟩:=ha;obtain⟨_,_⟩:=hb
 have e1:IntKind.u64.wrap a=a+18446744073709551616:=by rw[C4];omega
 have e2:IntKind.u64.wrap b=b:=by rw[C4];omega
 have e3:Fb (a+18446744073709551616) b=a*b/18446744073709551616+b:=by unfold Fb;rw[Int.add_mul];generalize a*b=p;omega
 rw[e1,e2,e3,Ak,C4];unfold hiW;generalize a*b=p at*;omega
theorem mul_pn (a b:Int) (ha:I64 a) (hb:I64 b) (h1:0<=a) (h2:b<0):wrap64 (IntKind.u64.wrap (Fb (IntKind.u64.wrap a) (IntKind.u64.wrap b)-IntKind.u64.wrap a))=hiW (a*b):=by
 have:=Rv ha hb
 obtain⟨_,_⟩:=ha;obtain⟨_,_⟩:=hb
 have e1:IntKind.u64.wrap a=a:=by rw[C4];omega
 have e2:IntKind.u64.wrap b=b+18446744073709551616:=by rw[C4];omega
 have e3:Fb a (b+18446744073709551616)=a*b/18446744073709551616+a:=by unfold Fb;rw[Int.mul_add];generalize a*b=p;omega
 rw[e1,e2,e3,Ak,C4];unfold hiW;generalize a*b=p at*;omega
theorem mul_nn (a b:Int) (ha:I64 a) (hb:I64 b) (h1:a<0) (h2:b<0):wrap64 (IntKind.u64.wrap (IntKind.u64.wrap (Fb (IntKind.u64.wrap a) (IntKind.u64.wrap b)-IntKind.u64.wrap b)-IntKind.u64.wrap a))=hiW (a*b):=by
 have:=Rv ha hb
 obtain⟨_,_⟩:=ha;obtain⟨_,_⟩:=hb
 have e1:IntKind.u64.wrap a=a+18446744073709551616:=by rw[C4];omega
 have e2:IntKind.u64.wrap b=b+18446744073709551616:=by rw[C4];omega
 have e3:Fb (a+18446744073709551616) (b+18446744073709551616)=a*b/18446744073709551616+a+b+18446744073709551616:=by unfold Fb;rw[Int.add_mul,Int.mul_add,Int.mul_add];generalize a*b=p;omega
 rw[e1,e2,e3,Ak,C4,C4];unfold hiW;generalize a*b=p at*;omega
theorem mul_lo (a b:Int):Kt (IntKind.u64.wrap a) (IntKind.u64.wrap b)=loW (a*b):=by
 rw[C4,C4];unfold Kt loW;exact(Int.mul_emod a b _).symm
theorem c_Mul_pp (a b:Int) (w:World) (h1:0<=a) (h2:0<=b):
  Cb 89 #[a,b] w (.agg #[.int .i64 (wrap64 (Fb (IntKind.u64.wrap a) (IntKind.u64.wrap b))),.int .u64 (Kt (IntKind.u64.wrap a) (IntKind.u64.wrap b))]):=by
 go_enter Tryz.func89,Tryz.ntmps89
 go_wp2_with fail
 refine(Qv _ _ (Ge a) (Ge b) _).mono ?_
 rintro e w1 ⟨rfl,rfl⟩
 go_wp2
 refine bodyPost_ret (v:= .agg #[.int .i64 (wrap64 (Fb (IntKind.u64.wrap a) (IntKind.u64.wrap b))),.int .u64 (Kt (IntKind.u64.wrap a) (IntKind.u64.wrap b))]) (by simp[results,Tryz.results89,go_sem]) rfl ⟨rfl,?_⟩
 exact(Below.refl _ _).alloc (Nat.le_refl _) _
theorem c_Mul_np (a b:Int) (w:World) (h1:a<0) (h2:0<=b):
  Cb 89 #[a,b] w (.agg #[.int .i64 (wrap64 (IntKind.u64.wrap (Fb (IntKind.u64.wrap a) (IntKind.u64.wrap b)-IntKind.u64.wrap b))),.int .u64 (Kt (IntKind.u64.wrap a) (IntKind.u64.wrap b))]):=by
 go_enter Tryz.func89,Tryz.ntmps89
 go_wp2_with fail
 refine(Qv _ _ (Ge a) (Ge b) _).mono ?_
 rintro e w1 ⟨rfl,rfl⟩
 go_wp2
 refine bodyPost_ret (v:= .agg #[.int .i64 (wrap64 (IntKind.u64.wrap (Fb (IntKind.u64.wrap a) (IntKind.u64.wrap b)-IntKind.u64.wrap b))),.int .u64 (Kt (IntKind.u64.wrap a) (IntKind.u64.wrap b))]) (by simp[results,Tryz.results89,go_sem]) rfl ⟨rfl,?_⟩
 exact(Below.refl _ _).alloc (Nat.le_refl _) _
theorem c_Mul_pn (a b:Int) (w:World) (h1:0<=a) (h2:b<0):
  Cb 89 #[a,b] w (.agg #[.int .i64 (wrap64 (IntKind.u64.wrap (Fb (IntKind.u64.wrap a) (IntKind.u64.wrap b)-IntKind.u64.wrap a))),.int .u64 (Kt (IntKind.u64.wrap a) (IntKind.u64.wrap b))]):=by
 go_enter Tryz.func89,Tryz.ntmps89
 go_wp2_with fail
 refine(Qv _ _ (Ge a) (Ge b) _).mono ?_
 rintro e w1 ⟨rfl,rfl⟩
 go_wp2
 refine bodyPost_ret (v:= .agg #[.int .i64 (wrap64 (IntKind.u64.wrap (Fb (IntKind.u64.wrap a) (IntKind.u64.wrap b)-IntKind.u64.wrap a))),.int .u64 (Kt (IntKind.u64.wrap a) (IntKind.u64.wrap b))]) (by simp[results,Tryz.results89,go_sem]) rfl ⟨rfl,?_⟩
 exact(Below.refl _ _).alloc (Nat.le_refl _) _
theorem c_Mul_nn (a b:Int) (w:World) (h1:a<0) (h2:b<0):
  Cb 89 #[a,b] w (.agg #[.int .i64 (wrap64 (IntKind.u64.wrap (IntKind.u64.wrap (Fb (IntKind.u64.wrap a) (IntKind.u64.wrap b)-IntKind.u64.wrap b)-IntKind.u64.wrap a))),.int .u64 (Kt (IntKind.u64.wrap a) (IntKind.u64.wrap b))]):=by
 go_enter Tryz.func89,Tryz.ntmps89
 go_wp2_with fail
 refine(Qv _ _ (Ge a) (Ge b) _).mono ?_
 rintro e w1 ⟨rfl,rfl⟩
 go_wp2
 refine bodyPost_ret (v:= .agg #[.int .i64 (wrap64 (IntKind.u64.wrap (IntKind.u64.wrap (Fb (IntKind.u64.wrap a) (IntKind.u64.wrap b)-IntKind.u64.wrap b)-IntKind.u64.wrap a))),.int .u64 (Kt (IntKind.u64.wrap a) (IntKind.u64.wrap b))]) (by simp[results,Tryz.results89,go_sem]) rfl ⟨rfl,?_⟩
 exact(Below.refl _ _).alloc (Nat.le_refl _) _
theorem c_Mul (a b:Int) (w:World) (ha:I64 a) (hb:I64 b):
  Cb 89 #[a,b] w (B7 (a*b)):=by
 unfold B7
 rw[<-mul_lo a b]
 rcases Int.lt_or_le a 0 with h1|h1<;>rcases Int.lt_or_le b 0 with h2|h2
 ·rw[<-mul_nn a b ha hb h1 h2];exact c_Mul_nn a b w h1 h2
 ·rw[<-mul_np a b ha hb h1 h2];exact c_Mul_np a b w h1 h2
 ·rw[<-mul_pn a b ha hb h1 h2];exact c_Mul_pn a b w h1 h2
 ·rw[<-mul_pp a b ha hb h1 h2];exact c_Mul_pp a b w h1 h2
attribute [local simp] Oper.looksAt Op.operands Call.operands Af Det Am
instance (n : Int) : Decidable (I64 n) := by unfold I64; infer_instance
def inI (n:Int):Bool:=decide (I64 n)
theorem inI_in {n:Int} (h:I64 n):inI n=true:=by simp[inI,h]
theorem inI_iff (a:Int) (ha:Ch a):(hiW a=hiW (wrap64 (loW a))/\loW a=loW (wrap64 (loW a)))↔I64 a:=by
 obtain⟨_,_⟩:=ha;rw[Ak];unfold I64 hiW loW;omega
theorem wrap_lo {a:Int} (h:I64 a):wrap64 (loW a)=a:=by rw[Ak];obtain⟨_,_⟩:=h;unfold loW;omega
theorem wv_lo (a:Int):wv (inI a) (wrap64 (loW a))=wv (inI a) a:=by
 by_cases h:I64 a
 ·rw[wrap_lo h]
 ·simp[inI,h,wv]
theorem c_toldI (a:Int) (f:Bool) (w:World):
  Cb 142 #[a,.bool f] w (.tuple #[.int .i64 (wv f a),.int .i64 (we f)]):=by
 cases f with
 |true=>
  have e1:wv true a=a:=rfl
  have e2:we true=0:=rfl
  rw[e1,e2]
  clear e1 e2
  go_enter Tryz.func142,Tryz.ntmps142
  go_wp2
  go_ret2
  exact⟨rfl,Below.refl _ _⟩
 |false=>
  have e1:wv false a=0:=rfl
  have e2:we false=5:=rfl
  rw[e1,e2]
  clear e1 e2
  go_enter Tryz.func142,Tryz.ntmps142
  go_wp2
  go_ret2
  exact⟨rfl,Below.refl _ _⟩
theorem wrap_I64 (n:Int):I64 (wrap64 n):=by unfold I64;rw[Ak];omega
theorem c_Int (a:Int) (w:World) (ha:Ch a):
  Cb 91 #[B7 a] w (.tuple #[.int .i64 (wv (inI a) a),.int .i64 (we (inI a))]):=by
 unfold B7
 go_enter Tryz.func91,Tryz.ntmps91
 go_wp2
 refine Bd (fun W=>Below w.heap.size w W/\Blk W w.heap.size #[.int .i64 (hiW a),.int .u64 (loW a)] 89) ⟨(Below.refl _ _).alloc (Nat.le_refl _) _,(by repeat (first|(refine Blk.new' ?_;simp;done)|refine Blk.alloc ?_ _))⟩ ?_
 rintro W ⟨hW,b1⟩
 refine Az 14 16 [] (fun W'=>Rex [] W W'/\Blk W' w.heap.size #[.int .i64 (hiW a),.int .u64 (loW a)] 89) Cu (by kernel_rfl) rfl ⟨(Rex.refl _ _).drew,b1⟩ (fun w w' ⟨h0,h1⟩ hr=>⟨h0.trans hr,h1.rex hr (by simp<;>omega)⟩) (fun c a d v w h=>by cases d<;>exact h) ?_
 iterate 7
  apply An (hg:=rfl) (hal:=rfl)
  ·intro a W' hC hE
   obtain⟨_,k1⟩:=hC
   have k1:=k1.cell
   first
    |(simp at hE;simp[go_sem,Act.eval,iw,hE,k1];try rfl)
    |(clear hE;simp[go_sem,Act.eval,iw,k1];try rfl)
 refine Cx rfl rfl (fun W' hC=>c_Of (wrap64 (loW a)) W' (wrap_I64 _)) (fun a W' hC hE=> ?_) ?_
 ·obtain⟨_,k1⟩:=hC
  have k1:=k1.cell
  first
   |(simp at hE;simp[go_sem,Act.eval,iw,hE,k1];try rfl)
   |(clear hE;simp[go_sem,Act.eval,iw,k1];try rfl)
 unfold B7
 have hiff:=inI_iff a ha
 refine An (.bool (inI a)) rfl rfl (fun a' W' hC hE=> ?_) ?_
 ·simp[Oper.looksAt,Op.operands,Af,Det] at hE
  simp[go_sem,Act.eval,hE]
  unfold inI
  by_cases h:I64 a
  ·obtain⟨h1,h2⟩:=hiff.2 h
   rw[if_pos h1,if_pos h2,decide_eq_true h]
  ·rw[decide_eq_false h]
   split
   ·split
    ·exact absurd (hiff.1 ⟨‹_›,‹_›⟩) h
    ·rfl
   ·rfl
 refine Cx rfl rfl (fun W' hC=>c_toldI (wrap64 (loW a)) (inI a) W') (fun a W' hC hE=> ?_) ?_
 ·obtain⟨_,k1⟩:=hC
  have k1:=k1.cell
  first
   |(simp at hE;simp[go_sem,Act.eval,iw,hE,k1];try rfl)
   |(clear hE;simp[go_sem,Act.eval,iw,k1];try rfl)
 iterate 4
  apply An (hg:=rfl) (hal:=rfl)
  ·intro a W' hC hE
   obtain⟨_,k1⟩:=hC
   have k1:=k1.cell
   first
    |(simp at hE;simp[go_sem,Act.eval,iw,hE,k1];try rfl)
    |(clear hE;simp[go_sem,Act.eval,iw,k1];try rfl)
 rintro W2 ⟨hR,c1⟩
 simp only[A6,Det,forall_eq]
 intros
 repeat (rename Am _ _ _ _=>hgd;clear hgd)
 simp only[nS]
 refine wpList_nil ?_
 clear hiff
 go_wp2
 go_ret2
 exact⟨by simp[wv_lo],hW.trans (hR.of_priv hW.size)⟩
end Go.Proofs.YtdeghcgakkhbmaaGreat
namespace Go.Proofs.YtdeghcgakkhbmaaGreat
open Go.RowKit
def Ft (x:Int):Int:=(Go.bitLen x.toNat:Int)
theorem Fe (x d:Int) (b:Nat) (hd:d=((2^b:Nat):Int)) (h:d<=x):Ft x=b+Ft (x/d):=by
 have hp:0<2^b:=Nat.two_pow_pos b
 have e:(x/d).toNat=x.toNat/2^b:=by
  subst hd
  obtain⟨n,rfl⟩:=Int.eq_ofNat_of_zero_le (show 0<=x by omega)
  rw[<-Int.natCast_ediv];rfl
 have hne:x.toNat/2^b≠0:=by
  have:2^b<=x.toNat:=by omega
  have:=Nat.div_pos this hp
  omega
 unfold Ft
 rw[e,Go.bitLen_shift x.toNat b hne]
 omega
theorem Fs (x:Int) (h0:0<=x) (h:x<256):0<=Ft x/\Ft x<=8:=by
 have:=Go.bitLen_le8 x.toNat (by omega);unfold Ft;omega
theorem ret_int {k:IntKind} {a b:Int} (h:a=b):Ending.returned (.int k a)= .returned (.int k b):=by rw[h]
theorem c_Len64 (x:Int) (w:World) (h0:0<=x) (h1:x<18446744073709551616):
  Calls Tryz.prog 237 #[.int .u64 x] w fun e w'=>e= .returned (.int .i64 (Ft x))/\w'=w:=by
 go_enter Tryz.func237,Tryz.ntmps237
 go_wp2
 all_goals
  simp only[Go.len8tab_get]
  go_ret
  refine⟨ret_int ?_,rfl⟩
 all_goals
  (try simp only[Ak])
  first
   |(have a:=Fe x 4294967296 32 rfl (by omega);have b:=Fe (x/4294967296) 65536 16 rfl (by omega);have c:=Fe (x/4294967296/65536) 256 8 rfl (by omega);have d:=Fs (x/4294967296/65536/256) (by omega) (by omega);unfold Ft at*;omega)
   |(have a:=Fe x 4294967296 32 rfl (by omega);have b:=Fe (x/4294967296) 65536 16 rfl (by omega);have d:=Fs (x/4294967296/65536) (by omega) (by omega);unfold Ft at*;omega)
   |(have a:=Fe x 4294967296 32 rfl (by omega);have c:=Fe (x/4294967296) 256 8 rfl (by omega);have d:=Fs (x/4294967296/256) (by omega) (by omega);unfold Ft at*;omega)
   |(have a:=Fe x 4294967296 32 rfl (by omega);have d:=Fs (x/4294967296) (by omega) (by omega);unfold Ft at*;omega)
   |(have b:=Fe x 65536 16 rfl (by omega);have c:=Fe (x/65536) 256 8 rfl (by omega);have d:=Fs (x/65536/256) (by omega) (by omega);unfold Ft at*;omega)
   |(have b:=Fe x 65536 16 rfl (by omega);have d:=Fs (x/65536) (by omega) (by omega);unfold Ft at*;omega)
   |(have c:=Fe x 256 8 rfl (by omega);have d:=Fs (x/256) (by omega) (by omega);unfold Ft at*;omega)
   |(have d:=Fs x (by omega) (by omega);unfold Ft at*;omega)
theorem Y6 (x:Int) (h0:1<=x) (h1:x<18446744073709551616):∃l:Nat,Ft x=l/\1<=l/\l<=64/\((2^(l-1):Nat):Int)<=x/\x<((2^l:Nat):Int):=by
 obtain⟨a,b⟩:=Go.bitLen_spec x.toNat
 have b:=b (by omega)
 refine⟨Go.bitLen x.toNat,rfl,?_,?_,by omega,by omega⟩
 ·rcases Nat.eq_zero_or_pos (Go.bitLen x.toNat) with h|h
  ·rw[h] at a;simp at a;omega
  ·exact h
 ·rcases Nat.lt_or_ge 64 (Go.bitLen x.toNat) with h|h
  ·have:2^64<=2^(Go.bitLen x.toNat-1):=Nat.pow_le_pow_right (by decide) (by omega)
   omega
  ·exact h
theorem c_LZ64 (x:Int) (w:World) (h0:1<=x) (h1:x<18446744073709551616):
  Calls Tryz.prog 236 #[.int .u64 x] w fun e w'=>e= .returned (.int .i64 (64-Ft x))/\w'=w:=by
 obtain⟨l,e,a,b,_,_⟩:=Y6 x h0 h1
 have g:0<=Ft x/\Ft x<=64:=by omega
 clear a b e
 obtain⟨g1,g2⟩:=g
 go_enter Tryz.func236,Tryz.ntmps236
 go_wp2_with fail
 refine(c_Len64 x _ (by omega) h1).mono ?_
 rintro e w1 ⟨rfl,rfl⟩
 go_wp2
 go_ret
 exact⟨rfl,rfl⟩
/-! ### One step of the division: a guess that is lowered -/
structure Kw (Y p z U t q r:Int):Prop where
 eq:q*p+r=U
 q0:0<=q
 qt:q<=4294967297
 r0:0<=r
 rt:r<4294967296
 ge:(U*4294967296+t)/Y<=q
structure O0 (Y p z U t:Int):Prop where
 y:Y=p*4294967296+z
 p1:2147483648<=p
 p2:p<4294967296
 z1:0<=z
 z2:z<4294967296
 u1:0<=U
 u2:U<Y
 t1:0<=t
 t2:t<4294967296
theorem O0.quo_lt {Y p z U t:Int} (D:O0 Y p z U t):(U*4294967296+t)/Y<4294967296:=by
 obtain⟨_,_,_,_,_,_,_,_,_⟩:=D
 exact Int.ediv_lt_of_lt_mul (by omega) (by omega)
theorem O0.start {Y p z U t:Int} (D:O0 Y p z U t):Kw Y p z U t (U/p) (U-U/p*p):=by
 obtain⟨hy,p1,p2,z1,z2,u1,u2,t1,t2⟩:=D
 have hm:=Int.emod_add_mul_ediv U p
 have hl:=Int.emod_lt_of_pos U (show 0<p by omega)
 have hn:=Int.emod_nonneg U (show p≠0 by omega)
 have hc:p*(U/p)=U/p*p:=Int.mul_comm _ _
 refine⟨by omega,Int.ediv_nonneg u1 (by omega),?_,by omega,by omega,?_⟩
 ·have:U/p<4294967298:=Int.ediv_lt_of_lt_mul (by omega) (by omega)
  omega
 ·have:(U*4294967296+t)/Y<U/p+1:=Int.ediv_lt_of_lt_mul (by omega) (by
   rw[hy,Int.mul_add,<-Int.mul_assoc]
   have h1:(U/p+1)*p=U/p*p+p:=by rw[Int.add_mul];omega
   have h2:0<=(U/p+1)*z:=Int.mul_nonneg (by have:=Int.ediv_nonneg u1 (show 0<=p by omega);omega) z1
   rw[h1]
   omega)
  omega
theorem Kw.dec {Y p z U t q r:Int} (D:O0 Y p z U t) (G:Kw Y p z U t q r) (hc:4294967296<=q∨4294967296*r+t<q*z):(U*4294967296+t)/Y<=q-1/\(q-1)*p+(r+p)=U/\0<=q-1:=by
 have hl:=D.quo_lt
 have h0:0<=(U*4294967296+t)/Y:=Int.ediv_nonneg (by have:=D.u1;have:=D.t1;omega) (by have:=D.u1;have:=D.u2;omega)
 have hge:(U*4294967296+t)/Y<q:=by
  rcases hc with h|h
  ·omega
  ·refine Int.ediv_lt_of_lt_mul (by have:=D.u1;have:=D.u2;omega) ?_
   rw[D.y,Int.mul_add,<-Int.mul_assoc]
   have:=G.eq
   omega
 refine⟨by omega,?_,by omega⟩
 have:=G.eq
 rw[Int.sub_mul]
 omega
theorem Kw.done {Y p z U t q r:Int} (D:O0 Y p z U t) (G:Kw Y p z U t q r) (h:q*z<=4294967296*r+t):q=(U*4294967296+t)/Y:=by
 have:q<=(U*4294967296+t)/Y:=(Int.le_ediv_iff_mul_le (by have:=D.u1;have:=D.u2;omega)).2 (by
  rw[D.y,Int.mul_add,<-Int.mul_assoc]
  have:=G.eq
  omega)
 have:=G.ge
 omega
theorem Kw.broken {Y p z U t q r:Int} (D:O0 Y p z U t) (hge:(U*4294967296+t)/Y<=q) (heq:q*p+r=U) (hq0:0<=q) (hq:q<=4294967296) (hr:4294967296<=r):q=(U*4294967296+t)/Y:=by
 have hz:q*z<=4294967296*4294967296:=Int.mul_le_mul hq (by have:=D.z2;omega) D.z1 (by decide)
 have:q<=(U*4294967296+t)/Y:=(Int.le_ediv_iff_mul_le (by have:=D.u1;have:=D.u2;omega)).2 (by
  rw[D.y,Int.mul_add,<-Int.mul_assoc]
  have:=D.t1
  omega)
 omega
theorem O0.rest {Y p z U t:Int} (D:O0 Y p z U t) (hY:Y<18446744073709551616):IntKind.u64.wrap (IntKind.u64.wrap (IntKind.u64.wrap (U*4294967296)+t)-IntKind.u64.wrap ((U*4294967296+t)/Y*Y))=(U*4294967296+t)%Y:=by
 have hm:=Int.emod_add_mul_ediv (U*4294967296+t) Y
 have hl:=Int.emod_lt_of_pos (U*4294967296+t) (show 0<Y by have:=D.u1;have:=D.u2;omega)
 have hn:=Int.emod_nonneg (U*4294967296+t) (show Y≠0 by have:=D.u1;have:=D.u2;omega)
 have hc:Y*((U*4294967296+t)/Y)=(U*4294967296+t)/Y*Y:=Int.mul_comm _ _
 simp only[C4]
 omega
theorem Zb {q z:Int} (h0:0<=q) (h:q<4294967296) (z1:0<=z) (z2:z<4294967296):0<=q*z/\q*z<=18446744073709551615:=by
 refine⟨Int.mul_nonneg h0 z1,?_⟩
 have:q*z<=4294967295*4294967295:=Int.mul_le_mul (by omega) (by omega) z1 (by decide)
 omega
theorem O0.next {Y p z U t t0:Int} (D:O0 Y p z U t) (h1:0<=t0) (h2:t0<4294967296):O0 Y p z ((U*4294967296+t)%Y) t0:=
 ⟨D.y,D.p1,D.p2,D.z1,D.z2,Int.emod_nonneg _ (by have:=D.u1;have:=D.u2;omega),Int.emod_lt_of_pos _ (by have:=D.u1;have:=D.u2;omega),h1,h2⟩
theorem div_core (hi lo y s Y p z U T t1 t0 Q V Q2 V2:Int) (w:World) (h0:1<=hi) (h1:hi<y) (h2:y<18446744073709551616) (l0:0<=lo) (l1:lo<18446744073709551616) (g1:0<=s) (g2:s<=63)
  (hlz:Calls Tryz.prog 236 #[.int .u64 y] w fun e w'=>e= .returned (s)/\w'=w)
  (hY:IntKind.u64.wrap (y*2^s.toNat)=Y) (hp:Y/4294967296=p) (hz:bits .and .u64 Y 4294967295=z) (hU:bits .or .u64 (IntKind.u64.wrap (hi*2^s.toNat)) (lo/2^(64-s).toNat)=U)
  (hT:IntKind.u64.wrap (lo*2^s.toNat)=T) (ht1:T/4294967296=t1) (ht0:bits .and .u64 T 4294967295=t0) (D:Hid (O0 Y p z U t1)) (p1:2147483648<=p) (p2:p<4294967296) (z1:0<=z) (z2:z<4294967296) (u1:0<=U) (u2:U<18446744073709551616)
  (a1:0<=t1) (a2:t1<4294967296) (b1:0<=t0) (b2:t0<4294967296) (HY:Hid (Y<18446744073709551616))
  (HQ:Hid ((U*4294967296+t1)/Y=Q)) (HV:Hid ((U*4294967296+t1)%Y=V)) (HQ2:Hid ((V*4294967296+t0)/Y=Q2)) (HV2:Hid ((V*4294967296+t0)%Y=V2)):
  Calls Tryz.prog 235 #[.int .u64 hi,.int .u64 lo,.int .u64 y] w fun e w'=>e= .returned (.tuple #[.int .u64 (IntKind.u64.wrap (IntKind.u64.wrap (Q*4294967296)+Q2)),.int .u64 (V2/2^s.toNat)])/\w'=w:=by
 have G0:=D.out.start
 have c1:0<=U/p*p:=Int.mul_nonneg G0.q0 (by omega)
 have c2:U/p*p<=U:=by have:=G0.eq;have:=G0.r0;omega
 have G0:=Hd G0
 have D2:=D.out.next b1 b2
 rw[HV.out] at D2
 have v1:=D2.u1
 have v2:V<=18446744073709551615:=by have:=D2.u2;have:=HY.out;omega
 have G1:=D2.start
 have c3:0<=V/p*p:=Int.mul_nonneg G1.q0 (by omega)
 have c4:V/p*p<=V:=by have:=G1.eq;have:=G1.r0;omega
 have G1:=Hd G1
 have D2:=Hd D2
 have E1:=D.out.rest HY.out
 rw[HQ.out,HV.out] at E1
 have E2:=D2.out.rest HY.out
 rw[HQ2.out,HV2.out] at E2
 have E1:=Hd E1
 have E2:=Hd E2
 have C34:=Hd (And.intro c3 c4)
 clear c3 c4
 go_enter Tryz.func235,Tryz.ntmps235
 go_wp2_with fail
 refine hlz.mono ?_
 rintro e w1 ⟨rfl,rfl⟩
 clear hlz
 go_upto_block 0 with(fail)
 clear hY hp hz hU hT ht1 ht0 c1 c2 h0 h1 h2 l0 l1
 go_cut [15] (fun qv wx=>qv= .int .u64 Q/\wx=w1)
 case first=>
  go_wp2
  go_loop [15,16] (fun qv rv=>∃q r:Int,qv= .int .u64 q/\rv= .int .u64 r/\Hid (Kw Y p z U t1 q r)) (fun _ rv=>(4294967296-intOf rv).toNat)
  case atStart=>exact⟨U/p,_,rfl,rfl,G0.out⟩
  case round=>
   obtain⟨q,r,rfl,rfl,G⟩:=hrel
   have e0:=G.out.q0
   have e1:=G.out.qt
   have e2:=G.out.r0
   have e3:=G.out.rt
   clear G0
   by_cases k1:4294967296<=q
   ·obtain⟨d1,d2,d3⟩:=G.out.dec D.out (.inl k1)
    have HD:=Hd (And.intro d1 d2)
    clear d1 d2
    by_cases k2:4294967296<=r+p
    ·go_wp2
     go_meet
     exact⟨by rw[Kw.broken D.out HD.out.1 HD.out.2 d3 (by omega) k2,HQ.out],rfl⟩
    ·go_wp2
     go_round
     case rel=>exact⟨q-1,r+p,rfl,rfl,⟨HD.out.2,d3,by omega,by omega,by omega,HD.out.1⟩⟩
     case measure=>simp[intOf];omega
   ·obtain⟨m1,m2⟩:=Zb e0 (by omega) z1 z2
    by_cases k3:4294967296*r+t1<q*z
    ·obtain⟨d1,d2,d3⟩:=G.out.dec D.out (.inr k3)
     have HD:=Hd (And.intro d1 d2)
     clear d1 d2
     by_cases k2:4294967296<=r+p
     ·go_wp2
      go_meet
      exact⟨by rw[Kw.broken D.out HD.out.1 HD.out.2 d3 (by omega) k2,HQ.out],rfl⟩
     ·go_wp2
      go_round
      case rel=>exact⟨q-1,r+p,rfl,rfl,⟨HD.out.2,d3,by omega,by omega,by omega,HD.out.1⟩⟩
      case measure=>simp[intOf];omega
    ·have HD:=Hd (G.out.done D.out (by omega))
     go_wp2
     go_meet
     exact⟨by rw[HD.out,HQ.out],rfl⟩
 case rest=>
  obtain⟨rfl,hwx⟩:=hcut
  subst wc
  obtain⟨c3,c4⟩:=C34.out
  have E1:=E1.out
  clear G0
  go_upto_block 2 with(fail)
  clear E1 c3 c4
  go_cut [18] (fun qv wy=>qv= .int .u64 Q2/\wy=w1)
  case first=>
   go_wp2
   go_loop [18,16] (fun qv rv=>∃q r:Int,qv= .int .u64 q/\rv= .int .u64 r/\Hid (Kw Y p z V t0 q r)) (fun _ rv=>(4294967296-intOf rv).toNat)
   case atStart=>exact⟨V/p,_,rfl,rfl,G1.out⟩
   case round=>
    obtain⟨q,r,rfl,rfl,G⟩:=hrel
    have e0:=G.out.q0
    have e1:=G.out.qt
    have e2:=G.out.r0
    have e3:=G.out.rt
    clear G1
    by_cases k1:4294967296<=q
    ·obtain⟨d1,d2,d3⟩:=G.out.dec D2.out (.inl k1)
     have HD:=Hd (And.intro d1 d2)
     clear d1 d2
     by_cases k2:4294967296<=r+p
     ·go_wp2
      go_meet
      exact⟨by rw[Kw.broken D2.out HD.out.1 HD.out.2 d3 (by omega) k2,HQ2.out],rfl⟩
     ·go_wp2
      go_round
      case rel=>exact⟨q-1,r+p,rfl,rfl,⟨HD.out.2,d3,by omega,by omega,by omega,HD.out.1⟩⟩
      case measure=>simp[intOf];omega
    ·obtain⟨m1,m2⟩:=Zb e0 (by omega) z1 z2
     by_cases k3:4294967296*r+t0<q*z
     ·obtain⟨d1,d2,d3⟩:=G.out.dec D2.out (.inr k3)
      have HD:=Hd (And.intro d1 d2)
      clear d1 d2
      by_cases k2:4294967296<=r+p
      ·go_wp2
       go_meet
       exact⟨by rw[Kw.broken D2.out HD.out.1 HD.out.2 d3 (by omega) k2,HQ2.out],rfl⟩
      ·go_wp2
       go_round
       case rel=>exact⟨q-1,r+p,rfl,rfl,⟨HD.out.2,d3,by omega,by omega,by omega,HD.out.1⟩⟩
       case measure=>simp[intOf];omega
     ·have HD:=Hd (G.out.done D2.out (by omega))
      go_wp2
      go_meet
      exact⟨by rw[HD.out,HQ2.out],rfl⟩
  case rest=>
   obtain⟨rfl,hwx⟩:=hcut
   subst wc
   have E2:=E2.out
   clear G1
   go_wp2
   go_ret2
   exact⟨rfl,rfl⟩
attribute [local simp] Oper.looksAt Op.operands Call.operands Af Det Am
theorem or_shift (a b s:Nat) (ha:2^s*a<18446744073709551616) (hb:b<2^s) (hs:s<=63):bits .or .u64 ((2^s*a:Nat):Int) (b:Int)=((2^s*a+b:Nat):Int):=by
 have h1:2^s<=2^63:=Nat.pow_le_pow_right (by decide) hs
 rw[bits_or_u64_nat _ _ ha (by omega),Nat.two_pow_add_eq_or_of_lt hb]
structure Shf (hi lo y e f:Nat):Prop where
 ef:e*f=18446744073709551616
 e1:1<=e
 f2:2<=f
 hy:hi<y
 y1:9223372036854775808<=y*e
 y2:y*e<18446744073709551616
 l:lo<18446744073709551616
theorem Shf.lo_eq {hi lo y e f:Nat} (S:Shf hi lo y e f):lo*e=lo/f*18446744073709551616+lo*e%18446744073709551616:=by
 have h1:lo*e/18446744073709551616=lo/f:=by
  rw[<-S.ef,Nat.mul_comm lo e]
  exact Nat.mul_div_mul_left _ _ (by have:=S.e1;omega)
 have:=Nat.div_add_mod (lo*e) 18446744073709551616
 rw[h1] at this
 omega
theorem Shf.num {hi lo y e f:Nat} (S:Shf hi lo y e f):(e*hi+lo/f)*18446744073709551616+lo*e%18446744073709551616=(hi*18446744073709551616+lo)*e:=by
 have:=S.lo_eq
 rw[Nat.add_mul,Nat.add_mul,Nat.mul_right_comm hi,Nat.mul_comm e hi]
 omega
theorem Shf.lt {hi lo y e f:Nat} (S:Shf hi lo y e f):e*hi+lo/f<y*e:=by
 have h1:(hi*18446744073709551616+lo)*e<y*e*18446744073709551616:=by
  have:hi*18446744073709551616+lo<y*18446744073709551616:=by have:=S.hy;have:=S.l;omega
  calc (hi*18446744073709551616+lo)*e<(y*18446744073709551616)*e:=Nat.mul_lt_mul_of_pos_right this (by have:=S.e1;omega)
   _=y*e*18446744073709551616:=by rw[Nat.mul_right_comm]
 have:=S.num
 omega
theorem Shf.ehi {hi lo y e f:Nat} (S:Shf hi lo y e f):e*hi<18446744073709551616:=by
 exact Nat.lt_of_le_of_lt (Nat.le_add_right _ _) (Nat.lt_trans S.lt S.y2)
theorem div_uniq {m q r N:Nat} (h:m*q+r=N) (hr:r<m):N/m=q/\N%m=r:=by
 subst h
 exact⟨by rw[Nat.mul_add_div (by omega),Nat.div_eq_of_lt hr];rfl,by rw[Nat.mul_add_mod,Nat.mod_eq_of_lt hr]⟩
theorem castq (U t Y:Nat):((U:Int)*4294967296+(t:Int))/(Y:Int)=(((U*4294967296+t)/Y:Nat):Int):=by simp
theorem castr (U t Y:Nat):((U:Int)*4294967296+(t:Int))%(Y:Int)=(((U*4294967296+t)%Y:Nat):Int):=by simp
theorem div_two (A B N y e:Nat) (Q V Q2 V2:Nat) (hy:0<y*e) (h1:(A*4294967296+B/4294967296)/(y*e)=Q) (h2:(A*4294967296+B/4294967296)%(y*e)=V)
  (h3:(V*4294967296+B%4294967296)/(y*e)=Q2) (h4:(V*4294967296+B%4294967296)%(y*e)=V2) (hN:A*18446744073709551616+B=N*e) (he:0<e):
  Q*4294967296+Q2=N/y/\V2/e=N%y:=by
 have d1:=Nat.div_add_mod (A*4294967296+B/4294967296) (y*e)
 have d2:=Nat.div_add_mod (V*4294967296+B%4294967296) (y*e)
 have l2:=Nat.mod_lt (V*4294967296+B%4294967296) hy
 rw[h1,h2] at d1
 rw[h3,h4] at d2
 rw[h4] at l2
 have hb:=Nat.div_add_mod B 4294967296
 have e1:y*e*(Q*4294967296+Q2)+V2=N*e:=by
  have hx:y*e*(Q*4294967296+Q2)=y*e*Q*4294967296+y*e*Q2:=by rw[Nat.mul_add,Nat.mul_assoc (y*e) Q]
  omega
 have hq:N*e/(y*e)=N/y:=Nat.mul_div_mul_right _ _ he
 have hr:N*e%(y*e)=N%y*e:=Nat.mul_mod_mul_right _ _ _
 obtain⟨hu,hv⟩:=div_uniq e1 l2
 refine⟨by rw[<-hu,hq],?_⟩
 rw[<-hv,hr]
 exact Nat.mul_div_cancel _ he
theorem c_Div64n (hi lo y:Nat) (w:World) (h0:1<=hi) (h1:hi<y) (h2:y<18446744073709551616) (l1:lo<18446744073709551616):
  Calls Tryz.prog 235 #[.int .u64 hi,.int .u64 lo,.int .u64 y] w fun e w'=>e= .returned (.tuple #[.int .u64 (((hi*18446744073709551616+lo)/y:Nat):Int),.int .u64 (((hi*18446744073709551616+lo)%y:Nat):Int)])/\w'=w:=by
 obtain⟨l,e,la,lb,lc,ld⟩:=Y6 y (by omega) (by omega)
 have hlz:=c_LZ64 y w (by omega) (by omega)
 have hs:64-Ft y=((64-l:Nat):Int):=by omega
 rw[hs] at hlz
 have hef:2^(64-l)*2^l=18446744073709551616:=by rw[<-Nat.pow_add,show 64-l+l=64 by omega]
 have hl2:2^l=2*2^(l-1):=by rw[show l=l-1+1 by omega,Nat.pow_succ];simp;omega
 have S:Shf hi lo y (2^(64-l)) (2^l):=by
  refine⟨hef,Nat.one_le_two_pow,by have:= @Nat.one_le_two_pow (l-1);omega,h1,?_,?_,l1⟩
  ·have:2^(l-1)*2^(64-l)<=y*2^(64-l):=Nat.mul_le_mul_right _ (by omega)
   have h3:2^(l-1)*2^(64-l)=9223372036854775808:=by rw[<-Nat.pow_add,show l-1+(64-l)=63 by omega]
   omega
  ·have:y*2^(64-l)<2^l*2^(64-l):=Nat.mul_lt_mul_of_pos_right (by omega) (Nat.two_pow_pos _)
   rw[Nat.mul_comm (2^l),hef] at this
   exact this
 have hpow:(2:Int)^(((64-l:Nat):Int)).toNat=((2^(64-l):Nat):Int):=by simp
 have hpow2:(2:Int)^(64-((64-l:Nat):Int)).toNat=((2^l:Nat):Int):=by
  rw[show (64-((64-l:Nat):Int)).toNat=l by omega];simp
 have hlt:=S.lt
 have hehi:=S.ehi
 have hnum:=S.num
 have hY1:=S.y1
 have hY2:=S.y2
 have hlf:lo/2^l<2^(64-l):=Nat.div_lt_of_lt_mul (by rw[Nat.mul_comm,hef];exact l1)
 have hT:=Nat.mod_lt (lo*2^(64-l)) (show 0<18446744073709551616 by decide)
 have hor:=or_shift hi (lo/2^l) (64-l) hehi hlf (by omega)
 have D:O0 ((y*2^(64-l):Nat):Int) ((y*2^(64-l)/4294967296:Nat):Int) ((y*2^(64-l)%4294967296:Nat):Int) ((2^(64-l)*hi+lo/2^l:Nat):Int) ((lo*2^(64-l)%18446744073709551616/4294967296:Nat):Int):=by
  generalize y*2^(64-l)=Y at*
  generalize 2^(64-l)*hi+lo/2^l=U at*
  generalize lo*2^(64-l)%18446744073709551616=T at*
  exact⟨by omega,by omega,by omega,by omega,by omega,by omega,by omega,by omega,by omega⟩
 have fin:=div_two (2^(64-l)*hi+lo/2^l) (lo*2^(64-l)%18446744073709551616) (hi*18446744073709551616+lo) y (2^(64-l)) _ _ _ _ (by omega) rfl rfl rfl rfl hnum (Nat.two_pow_pos _)
 have hquo:(hi*18446744073709551616+lo)/y<18446744073709551616:=Nat.div_lt_of_lt_mul (by omega)
 have key:=div_core hi lo y ((64-l:Nat):Int) ((y*2^(64-l):Nat):Int) ((y*2^(64-l)/4294967296:Nat):Int) ((y*2^(64-l)%4294967296:Nat):Int) ((2^(64-l)*hi+lo/2^l:Nat):Int)
  ((lo*2^(64-l)%18446744073709551616:Nat):Int) ((lo*2^(64-l)%18446744073709551616/4294967296:Nat):Int) ((lo*2^(64-l)%18446744073709551616%4294967296:Nat):Int) _ _ _ _ w (by omega) (by omega) (by omega) (by omega) (by omega) (by omega) (by omega) hlz
  (by rw[hpow,<-Int.natCast_mul];exact Gt _ hY2) (div32 _) (Y4 _ hY2)
  (by rw[hpow,hpow2,<-Int.natCast_mul,Nat.mul_comm hi,Gt _ hehi,<-Int.natCast_ediv];exact hor)
  (by rw[hpow,<-Int.natCast_mul];exact u64_mod _) (div32 _) (Y4 _ hT) D D.p1 D.p2 D.z1 D.z2 D.u1 (by have:=D.u2;omega) D.t1 D.t2 (by omega) (by omega) (by show ((y*2^(64-l):Nat):Int)<_;omega)
  (castq _ _ _) (castr _ _ _) (castq _ _ _) (castr _ _ _)
 refine key.mono fun e w' ⟨he,hw⟩=>⟨?_,hw⟩
 rw[he,<-fin.1,<-fin.2,hpow]
 have hq:=hquo
 rw[<-fin.1] at hq
 clear fin hor hnum D key he
 have e1:∀a b:Nat,a*4294967296+b<18446744073709551616->IntKind.u64.wrap (IntKind.u64.wrap ((a:Int)*4294967296)+(b:Int))=((a*4294967296+b:Nat):Int):=fun a b h=>by
  rw[C4,C4];omega
 rw[e1 _ _ hq]
 simp
theorem c_Div64z (lo y:Int) (w:World) (h1:1<=y) (h2:y<18446744073709551616) (l0:0<=lo) (l1:lo<18446744073709551616):
  Cb 235 #[.int .u64 0,.int .u64 lo,.int .u64 y] w (.tuple #[.int .u64 (lo/y),.int .u64 (lo%y)]):=by
 have hy:¬y=0:=by omega
 have e1:IntKind.u64.wrap (lo.tdiv y)=lo/y:=IntWalk.u64_quo _ _ ⟨l0,by omega,h1⟩
 have e2:IntKind.u64.wrap (lo.tmod y)=lo%y:=by
  have a:=Int.emod_nonneg lo hy
  have b:=Int.emod_lt_of_pos lo (show 0<y by omega)
  rw[IntWalk.rem_in _ _ l0,IntWalk.u64_in _ (by omega)]
 have e3:lo.tmod y=lo%y:=IntWalk.rem_in _ _ l0
 have E:=Hd (And.intro e1 (And.intro e2 e3))
 clear e1 e2 e3
 go_enter Tryz.func235,Tryz.ntmps235
 go_wp2
 obtain⟨e1,e2,e3⟩:=E.out
 refine Az 8 135 [] (fun W'=>Rex [] w W') Cu (by kernel_rfl) rfl (Rex.refl _ _).drew (fun w w' h0 hr=>h0.trans hr) (fun c a d v w h=>by cases d<;>exact h) ?_
 iterate 8
  apply An (hg:=rfl) (hal:=rfl)
  ·intro a W' hC hE
   obtain _:=hC
   first
    |(simp at hE;simp[go_sem,Act.eval,iw,hE,hy,e1,e2,e3];try rfl)
    |(clear hE;simp[go_sem,Act.eval,iw,hy,e1,e2,e3];try rfl)
 rintro W2 hR
 simp only[A6,Det,forall_eq]
 intros
 repeat (rename Am _ _ _ _=>hgd;clear hgd)
 simp only[nS]
 refine wpList_nil ?_
 clear e1 e2 e3
 go_wp2
 go_ret2
 exact⟨rfl,hR.of_priv (Nat.le_refl _)⟩
theorem c_Div64 (hi lo y:Int) (w:World) (h0:0<=hi) (h1:hi<y) (h2:y<18446744073709551616) (l0:0<=lo) (l1:lo<18446744073709551616):
  Cb 235 #[.int .u64 hi,.int .u64 lo,.int .u64 y] w (.tuple #[.int .u64 ((hi*18446744073709551616+lo)/y),.int .u64 ((hi*18446744073709551616+lo)%y)]):=by
 rcases Int.lt_or_le 0 hi with h|h
 ·obtain⟨hi,rfl⟩:=Int.eq_ofNat_of_zero_le h0
  obtain⟨lo,rfl⟩:=Int.eq_ofNat_of_zero_le l0
  obtain⟨y,rfl⟩:=Int.eq_ofNat_of_zero_le (show 0<=y by omega)
  refine(c_Div64n hi lo y w (by omega) (by omega) (by omega) (by omega)).mono fun e w' ⟨he,hw⟩=>⟨?_,by rw[hw];exact Below.refl _ _⟩
  rw[he]
  simp
 ·obtain rfl:hi=0:=by omega
  have:=c_Div64z lo y w (by omega) h2 l0 l1
  simpa using this
end Go.Proofs.YtdeghcgakkhbmaaGreat
