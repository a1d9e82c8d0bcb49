/- Parts of the proof that follows. No condition. -/
import Derived.Test.YtidfcoooccblaaaGreatBho12
set_option maxRecDepth 100000
set_option maxHeartbeats 8000000
set_option linter.unusedSimpArgs false
set_option linter.unusedVariables false
namespace Go.Proofs.YtidfcoooccblaaaGreat
open Go.RowKit
attribute [local go_sem] Oper.semAt_some
section
variable {P:Program} {ops:Array Oper} {C:World->Prop} {X:List (Nat×Nat)} {a0:Act} {n nn:Nat} {Q:Exit->Act->World->Prop}
def Py (ops:Array Oper) (n:Nat):Bool:=(List.range n).all fun i=>(List.range ops.size).all fun t=>decide (t<n)||Tk ops 8 t i
theorem Hu :∀(l:List Oper) (k:Nat) (listed:Array Bool) (a:Act) (w:World),(∀j,l[j]? =ops[k+j]?)->Region.seqB .any ops l.length k listed=true->
  wpListIn Fence.wide nn P ops Q l a w->wpAnyIn Fence.wide nn P .any ops Q l.length listed a w
 | [],_,_,_,_,_,hB,h=>⟨by simpa [Region.seqB] using hB,h⟩
 |o::l,k,listed,a,w,hl,hB,h=>by
  have h0:ops[k]? =some o:=by simpa using (hl 0).symm
  simp only[List.length_cons,Region.seqB,Bool.and_eq_true,decide_eq_true_eq] at hB
  refine⟨fun e=>(by rw[hB.1] at e;cases e),fun i hi=> ?_⟩
  obtain rfl:i=k:=by rw[hB.1] at hi;simpa using hi
  have hw:wpOpIn Fence.wide nn P ops Q i (wpListIn Fence.wide nn P ops Q l) a w:=by
   unfold wpOpIn
   simp only[h0]
   exact h
  exact wpOpIn_mono (fun a' w' h'=>Hu l (i+1) _ a' w' (fun j=>by have:=hl (j+1);simpa [Nat.add_assoc,Nat.add_comm 1 j] using this) hB.2 h') hw
theorem Uq {m i:Nat} {Ψ:Nat->Bg} {listed:Array Bool} {a:Act} {w:World} (hok:Ok ops n m) (hm:m=a0.tmps.size) (hC:∀w w',C w->Rex (X.map (·.2)) w w'->C w')
  (hcl:∀i,i<n->A8 (Bl X i) (Ψ i)) (hop:∀i o,i<n->ops[i]? =some o->L4 P ops C (D3 X i) (Al a0 (Cr ops Ψ i)) o (Ψ i))
  (inv:Inv ops C a0 n Ψ listed a w) (hr:i∈Region.ready .any ops listed) (hi:i<n):wpOpIn Fence.wide nn P ops Q i (Inv ops C a0 n Ψ (listed.setIfInBounds i true)) a w:=by
 obtain⟨_,o,ho,_⟩:=mem_ready.1 hr
 obtain⟨h1,h2⟩:=hop i o hi ho a w inv.c (Lh hok inv hr hi ho)
 unfold wpOpIn
 simp only[ho]
 by_cases hw:Region.wanted o (yielded ops a.tmps)=true
 ·simp only[hw,if_true]
  refine⟨fun _ _=>trivial,?_⟩
  show o.uponIn Fence.wide nn P a _ Q ((execOp a.eval o).run P w)
  have h1:=h1 hw
  generalize (execOp a.eval o).run P w=r at h1
  cases r with
  |ok x w'=>
   cases x<;>simp only[Kf] at h1<;>simp only[Oper.uponIn]
   case value u=>exact E8 hok hm hC hcl inv hr hi ho h1.1 h1.2.1 fun ha=> .inr (h1.2.2 ha)
   case skip=>exact E8 hok hm hC hcl inv hr hi ho h1.1 h1.2.1 fun ha=>by rw[h1.2.2] at ha;cases ha
   case enter f args=>
    obtain⟨rfl,hna,hc⟩:=h1
    refine⟨fun e=>by simp[Fence.wide] at e,(callsIn_wide.2 hc).mono fun e w'' ⟨u,he,hR,hΦ⟩=> ?_⟩
    subst he
    exact E8 hok hm hC hcl inv hr hi ho hR hΦ fun ha=>by rw[hna] at ha;cases ha
  |halt x w'=>simp only[Kf] at h1
 ·have hw':Region.wanted o (yielded ops a.tmps)=false:=by simpa using hw
  simp only[hw',Bool.false_eq_true,if_false]
  exact⟨fun _ _=>trivial,E8 hok hm hC hcl inv hr hi ho (Rex.refl _ _) (h2 hw') fun _=> .inl rfl⟩
theorem Z2 {m:Nat} {Ψ:Nat->Bg} (hok:Ok ops n m) (hall:Py ops n=true) (hm:m=a0.tmps.size) (hC:∀w w',C w->Rex (X.map (·.2)) w w'->C w')
  (hcl:∀i,i<n->A8 (Bl X i) (Ψ i)) (hop:∀i o,i<n->ops[i]? =some o->L4 P ops C (D3 X i) (Al a0 (Cr ops Ψ i)) o (Ψ i))
  (hFin:∀a w,(∃listed,Inv ops C a0 n Ψ listed a w/\∀i,i<n->listed.getD i false=true)->wpListIn Fence.wide nn P ops Q (ops.toList.drop n) a w):
  ∀(f:Nat) (listed:Array Bool) (a:Act) (w:World),Inv ops C a0 n Ψ listed a w->listed.toList.count false=f->(∀t,n<=t->listed.getD t false=false)->wpAnyIn Fence.wide nn P .any ops Q f listed a w:=by
 intro f
 induction f with
 |zero=>
  intro listed a w inv hcnt htl
  have hle:=hok.le
  have hl:∀i,i<ops.size->listed.getD i false=true:=fun i hi=>by
   have h0:¬false∈listed.toList:=by rw[<-List.count_eq_zero];exact hcnt
   have hi':i<listed.size:=by rw[inv.lsize];exact hi
   cases hb:listed[i] with
   |true=>simp[hi',hb]
   |false=>exact absurd (by rw[<-hb];exact Array.mem_toList_iff.2 (Array.getElem_mem hi')) h0
  have hn:n=ops.size:=by
   rcases Nat.lt_or_ge n ops.size with h|h
   ·have:=htl n (Nat.le_refl _);rw[hl n h] at this;cases this
   ·omega
  refine⟨List.eq_nil_iff_forall_not_mem.2 fun k hk=> ?_,?_⟩
  ·obtain⟨h1,o,ho,_⟩:=mem_ready.1 hk
   have hk':=(Array.getElem?_eq_some_iff.1 ho).1
   have h2:=hl k hk'
   simp[inv.lsize,hk'] at h1 h2
   rw[h1] at h2;cases h2
  ·have:=hFin a w ⟨listed,inv,fun i hi=>hl i (by omega)⟩
   rw[hn,List.drop_eq_nil_of_le (by simp)] at this
   exact this
 |succ f ih=>
  intro listed a w inv hcnt htl
  have hle:=hok.le
  by_cases hbody:∀i,i<n->listed.getD i false=true
  ·have hl:listed=(Array.replicate n true)++Array.replicate (ops.size-n) false:=by
    apply Array.ext
    ·simp[inv.lsize];omega
    ·intro i h1 h2
     by_cases hi:i<n
     ·have:=hbody i hi
      simp[h1] at this
      simp[hi,this]
     ·have:=htl i (by omega)
      simp[h1] at this
      simp[Array.getElem_append,hi,this]
   have hc:listed.toList.count false=ops.size-n:=by
    rw[hl];simp[List.count_replicate]
   have hseq:=hok.seq
   unfold H9 at hseq
   rw[<-hl] at hseq
   have hlen:(ops.toList.drop n).length=ops.size-n:=by simp
   have:=Hu (P:=P) (nn:=nn) (Q:=Q) (ops.toList.drop n) n listed a w (fun j=>by rw[List.getElem?_drop];simp) (by rw[hlen];exact hseq) (hFin a w ⟨listed,inv,hbody⟩)
   rw[hlen] at this
   have he:ops.size-n=f+1:=by omega
   rwa [he] at this
  ·obtain⟨i0,hi0⟩:=Classical.not_forall.1 hbody
   obtain⟨hi0n,hi0l⟩:=Classical.not_imp.1 hi0
   have hl0:listed.getD i0 false=false:=by simpa using hi0l
   obtain⟨k,_,hk2,_⟩:=Fd hok inv.lsize i0 (by omega) hl0
   refine⟨fun h=>(by rw[h] at hk2;cases hk2),fun i hi=> ?_⟩
   have hin:i<n:=by
    rcases Nat.lt_or_ge i n with h|h
    ·exact h
    ·obtain⟨_,o,ho,hal⟩:=mem_ready.1 hi
     have h9:=List.all_eq_true.1 (List.all_eq_true.1 hall i0 (List.mem_range.2 hi0n)) i (List.mem_range.2 (Array.getElem?_eq_some_iff.1 ho).1)
     rw[decide_eq_false (by omega),Bool.false_or] at h9
     have:=Ky inv 8 i i0 o ho hal h9
     rw[hl0] at this;cases this
   refine wpOpIn_mono (fun a' w' hinv=>ih _ a' w' hinv ?_ fun t ht=>by rw[getD_set_ne false (by omega)];exact htl t ht) (Uq hok hm hC hcl hop inv hi hin)
   obtain⟨hun,o,ho,_⟩:=mem_ready.1 hi
   have his:i<listed.size:=by rw[inv.lsize];exact(Array.getElem?_eq_some_iff.1 ho).1
   have hunf:=Cq his hun
   have hg:listed.toList[i]? =some false:=by simp[his] at hunf;simp[his,hunf]
   have:=Fr listed.toList i hg
   rw[Array.toList_setIfInBounds];omega
theorem inv_fin {m:Nat} {Ψ:Nat->Bg} {listed:Array Bool} {a:Act} {w:World} (hok:Ok ops n m) (hm:m=a0.tmps.size) (inv:Inv ops C a0 n Ψ listed a w) (hall:∀i,i<n->listed.getD i false=true) {K:Act->Prop} (h:Av w a0 (Cr ops Ψ n) K):K a:=by
 have hex:∀i,∃v,i<n->Ψ i v w/\∀d,Bo ops i=some d->v=a.tmps.getD d undef:=by
  intro i
  by_cases hi:i<n
  ·cases hd:Bo ops i with
   |none=>
    obtain⟨u,hu⟩:=inv.eff i hi (hall i hi) hd
    exact⟨u,fun _=>⟨hu,fun d h=>by cases h⟩⟩
   |some d=>exact⟨a.tmps.getD d undef,fun _=>⟨inv.val i hi (hall i hi) d hd,fun d' h=>by injection h with h;rw[h]⟩⟩
  ·exact⟨undef,fun h=>absurd h hi⟩
 let val:Nat->Value:=fun i=>(hex i).choose
 have hval:∀i,i<n->Ψ i (val i) w/\∀d,Bo ops i=some d->val i=a.tmps.getD d undef:=fun i hi=>(hex i).choose_spec hi
 have ha:a=Es ops val a0 n:=by
  have ht:a.tmps=(Es ops val a0 n).tmps:=by
   apply Array.ext
   ·rw[Gn,inv.size]
   ·intro s h1 h2
    have hg:a.tmps.getD s undef=(Es ops val a0 n).tmps.getD s undef:=by
     by_cases hw:∃i,i<n/\Bo ops i=some s
     ·obtain⟨i,hi,hw⟩:=hw
      rw[Jy hok hm val s n (Nat.le_refl _) i hi hw,(hval i hi).2 s hw]
     ·rw[Jz val s n fun i hi hwi=>hw ⟨i,hi,hwi⟩]
      exact inv.old s fun i hi _ hwi=>hw ⟨i,hi,hwi⟩
    simpa [h1,h2] using hg
  have hd:a.defers=(Es ops val a0 n).defers:=by rw[F5,inv.defers]
  cases a;cases hp:Es ops val a0 n;rw[hp] at ht hd;simp at ht hd;subst ht;subst hd;rfl
 have:=Qx (ops:=ops) (a0:=a0) (val:=val) n K (fun i hi=>(hval i hi).1) h
 rwa [<-ha] at this
theorem Nm {id:Nat} {l:List Oper} {w0:World} (n m:Nat) (X:List (Nat×Nat)) (C:World->Prop) (hf:P.follows .mixedOrders=true) (hB:okB l.toArray n m=true) (hall:Py l.toArray n=true) (hm:m=a0.tmps.size)
  (h0:C w0.drew) (hC:∀w w',C w->Rex (X.map (·.2)) w w'->C w')
  (h:An P l.toArray C X a0 (fun acc=>∀w,C w->Av w a0 acc fun a=>wpListIn Fence.wide nn P l.toArray Q (l.drop n) a w) 0 (l.take n) []):
  (Code.region id l.toArray true).wpIn Fence.wide nn P Q a0 w0:=by
 have hok:=L0 hB
 have hle:n<=l.length:=by have:=hok.le;simpa using this
 obtain⟨Ψ,_,h2,h3⟩:=Jr (ops:=l.toArray) (l.take n) 0 [] (fun _ _ _=>True) (fun j hj=>by simp at hj;simp[hj]) rfl h
 have hlen:0+(l.take n).length=n:=by simp;omega
 rw[hlen] at h3
 refine wpIn_region_any hf (Z2 hok hall hm hC (fun i hi=>(h2 i (by omega) (by omega)).1) (fun i o hi ho=> ?_) (fun a w ⟨listed,inv,hl⟩=>inv_fin hok hm inv hl (h3 w inv.c)) _ _ _ _ ⟨h0,rfl,rfl,by simp,?_,?_,?_,?_,?_,?_⟩ (by simp) (fun t _=>getD_replicate_false _ t))
 ·obtain⟨_,o',ho',h⟩:=h2 i (by omega) (by omega)
  rw[ho] at ho';injection ho' with e;subst e;exact h
 ·intro i o ho hl;rw[getD_replicate_false] at hl;cases hl
 ·intro i hi hl;rw[getD_replicate_false] at hl;cases hl
 ·intro i hi hl;rw[getD_replicate_false] at hl;cases hl
 ·intro s _;rfl
 ·intro i o d hi hl;rw[getD_replicate_false] at hl;cases hl
 ·intro i o d j o' d' hi hj hij hl;rw[getD_replicate_false] at hl;cases hl
end
end Go.Proofs.YtidfcoooccblaaaGreat
namespace Go.Proofs.YtidfcoooccblaaaGreat
open Go.RowKit Go.Shelf
attribute [local simp] Oper.looksAt Op.operands Call.operands Al Det Ap
attribute [local go_sem] Oper.semAt_some
theorem Zq {s:A3} {A b:Int} {k:Nat} {x:A4} (h:s.segs[k]? =some x):(s.segs.take (k+1)).flatMap (Dw A b)=(s.segs.take k).flatMap (Dw A b)++Dw A b x:=J4 (Dw A b) h
theorem gdet_on {p:Bool} {c v:Value} {w:World} (h:Ap p c v w) (hp:p=true):v=c:=by unfold Ap at h;rw[if_pos hp] at h;exact h
theorem gdet_off {p:Bool} {c v:Value} {w:World} (h:Ap p c v w) (hp:p=false):v=undef:=by unfold Ap at h;rw[if_neg (by rw[hp];simp)] at h;exact h
theorem Zv {A b t v:Int} (l:List (Int×Int)) (h1:A<=t) (h2:t<=b):C5 A b (l++ [(t,v)])=C5 A b l++ [([v],0)]:=by
 have:Ja A b (t,v)=true:=by simp[Ja,h1,h2]
 simp[C5,this]
theorem Xn {A b t v:Int} (l:List (Int×Int)) (h:¬(A<=t/\t<=b)):C5 A b (l++ [(t,v)])=C5 A b l:=by
 have:Ja A b (t,v)=false:=by
  cases hh:Ja A b (t,v) with
  |false=>rfl
  |true=>simp[Ja] at hh;exact absurd hh h
 simp[C5,this]
theorem Rk (n:Nat) (hn:1<=n) (lr Ba Bs Bb n₀:Nat) (s:A3) (ps po:Option Addr) (cs co:Nat) (a b:Int) (w₁:World) (hin:A9 w₁ s ps po) (hv:∀x,x∈s.segs->Cw x=true) (hI:∀x,x∈s.opn->I64 x.2) (hb: -9223372036854775808<=b) (h1:w₁.heap.size<=n₀) (hA0:n₀<=Ba) (hS0:n₀<=Bs) (hB0:n₀<=Bb) (hab:Ba≠Bs) (hac:Ba≠Bb)
  (J:List (List Int×Int)->World->Prop) (B0:Nat) (hJ:AbidesFrom B0 J) (hJw:∀pre W v,J pre W->J pre (W.setCell ⟨Ba,0,none⟩ v))
  (hY:∀pre x W,J pre W->pre++ [x]<+:Kc s a b->YieldAt Fence.wide (n-1) Tryz.prog lr #[.agg (pcA x.1 x.2)] W fun e W'=>e= .returned (.bool true)/\J (pre++ [x]) W'/\KF w₁.heap.size n₀ W W')
  (W:World) (hW:Below w₁.heap.size w₁ W) (kS:Blk W Bs (Cd s ps cs po co) 25) (kA:Blk W Ba #[.int .i64 a] 2) (kB:Blk W Bb #[.int .i64 b] 2) (h0:J [] W):
  CallsIn Fence.wide n Tryz.prog 159 #[.func (.yield lr) #[] #[],.pointer (some ⟨Ba,0,none⟩),.pointer (some ⟨Bs,0,none⟩),.pointer (some ⟨Bb,0,none⟩)] W fun e W'=>(∃v,e= .returned v)/\J (Kc s a b) W':=by
 have hfS:=hin.fewS
 have hfO:=hin.fewO
 obtain⟨A,hA⟩:∃A,mx a s.floor=A:=⟨_,rfl⟩
 have hpc:Kc s a b=s.segs.flatMap (Dw A b)++C5 A b s.opn:=by unfold Kc;rw[hA]
 rw[hpc] at hY⊢
 clear hpc
 have hmax:∀ts t x y w,(Builtin.max_ ts t #[.int .i64 x,.int .i64 y]).run Tryz.prog w= .ok (.int .i64 (mx x y)) w:=fun ts t x y w=>by simp[Builtin.max_,Builtin.max2,mx]
 have k1:=kS.cell
 unfold Cd at k1
 have k2:=kA.cell
 have f2:=kA.frozen
 have y2:=kA.lt
 refine callsIn_of_wp Tryz.func159 rfl trivial ?_ rfl
 simp only[Tryz.ntmps159,List.size_toArray,List.length_cons,List.length_nil,Nat.reduceAdd,Nat.reduceSub,Array.replicate_succ,Array.replicate_zero,List.push_toArray,List.append_toArray,List.nil_append,List.cons_append]
 refine G3 ?_
 gi_wp2
 clear k1 k2 f2 hmax
 have hW2:Below w₁.heap.size w₁ (W.setCell ⟨Ba,0,none⟩ (.int .i64 A)):=hW.setCell (p:=⟨Ba,0,none⟩) (by simp;omega) _
 have e1:Blk (W.setCell ⟨Ba,0,none⟩ (.int .i64 A)) Bs (Cd s ps cs po co) 25:=kS.setO (Ne.symm hab) 0 _
 have e2:Blk (W.setCell ⟨Ba,0,none⟩ (.int .i64 A)) Ba #[.int .i64 A] 2:=kA.set2 rfl
 have e3:Blk (W.setCell ⟨Ba,0,none⟩ (.int .i64 A)) Bb #[.int .i64 b] 2:=kB.setO (Ne.symm hac) 0 _
 have hJ2:=hJw _ _ (.int .i64 A) h0
 obtain⟨V,hVe⟩:∃V,V=W.setCell ⟨Ba,0,none⟩ (.int .i64 A):=⟨_,rfl⟩
 rw[<-hVe] at hW2 e1 e2 e3 hJ2⊢
 clear hVe hW kS kA kB h0 y2
 have k1:=e1.cell
 unfold Cd at k1
 refine wpIn_label ?_
 gi_wp2
 clear k1
 gi_loopw [18] (fun i wr=>∃k:Nat,k<=s.segs.length/\i= .int .i64 k/\J ((s.segs.take k).flatMap (Dw A b)) wr/\Below w₁.heap.size w₁ wr/\Blk wr Bs (Cd s ps cs po co) 25/\Blk wr Ba #[.int .i64 A] 2/\Blk wr Bb #[.int .i64 b] 2) (fun i _=>s.segs.length-(intOf i).toNat)
 case atStart=>exact⟨0,Nat.zero_le _,rfl,hJ2,hW2,e1,e2,e3⟩
 case round=>
  obtain⟨k,hk,rfl,hJk,hbw,d1,d2,d3⟩:=hrel
  have y1:=d1.lt
  have y2:=d2.lt
  have y3:=d3.lt
  rcases Nat.lt_or_ge k s.segs.length with hlk|hge
  ·obtain⟨x,tr⟩:∃r,s.segs[k]? =some r:=⟨s.segs[k]'(by omega),List.getElem?_eq_getElem (by omega)⟩
   have hsx:=hv x (List.mem_of_getElem? tr)
   obtain⟨b0,o0,p',q',cp,vc,rfl,hs,hvc,q0,q1,q2,q3,q4,q5,q6,q7⟩:=(hin.below hbw).segs.one tr
   have cP:=fun W' (hW':Below wr.heap.size wr W')=>c_Part x p' q' cp vc A b W' (hs.below hW') hvc hb
   rw[Sf hsx A b] at cP
   have zb:=Br q0
   try simp only at zb
   have hst:=Zq (A:=A) (b:=b) tr
   have hroom:=Sw (m:=1) (Dw A b) tr (C5 A b s.opn)
   unfold C7 at cP
   have k2:=d2.cell
   have k3:=d3.cell
   by_cases he:K7 A b (B2 x)= []
   ·rw[if_pos he] at cP
    have hpc:Dw A b x= []:=by unfold Dw;rw[if_pos he]
    rw[hpc,List.append_nil] at hst
    replace hst:=Hd hst
    replace cP:=Hd cP
    clear hroom hpc he tr hsx hs
    gi_wp2_with (refine⟨trivial,?_⟩;gi_at_call 160;refine(callsIn_wide.2 (cP.out _ (Aa))).mono ?_;rintro e w2 ⟨rfl,hB⟩)
    have hAB:=((Below.refl wr.heap.size wr).alloc (Nat.le_refl _) (Obj.cells #[.int .i64 x.K,.slice p' x.runs.length cp,.int .i64 x.A,.int .i64 x.R,.int .i64 x.n,.int .i64 x.d,.slice q' x.raw.length vc,.int .i64 x.E] 98)).trans (hB.mono (by simp))
    go_roundw
    case rel=>exact⟨k+1,by omega,by simp,by rw[hst.out];exact By hJ hJk (hAB.alloc hAB.size _),(hbw.trans (hAB.mono hbw.size)).alloc (by have:=hAB.size;have:=hbw.size;omega) _,(d1.below hAB).alloc _,(d2.below hAB).alloc _,(d3.below hAB).alloc _⟩
    case measure=>simp[intOf];omega
   ·rw[if_neg he] at cP
    have hpc:Dw A b x= [(K7 A b (B2 x),x.E)]:=by unfold Dw;rw[if_neg he]
    rw[hpc] at hst hroom
    obtain⟨L,hL⟩:∃L,K7 A b (B2 x)=L:=⟨_,rfl⟩
    rw[hL] at cP hst hroom
    have hroom:=Hd (show (s.segs.take k).flatMap (Dw A b)++ [(L,x.E)]<+:s.segs.flatMap (Dw A b)++C5 A b s.opn from hroom)
    unfold Lc at cP
    replace hst:=Hd hst
    replace cP:=Hd cP
    clear hpc he tr hsx hs hL
    gi_wp2_with (refine⟨trivial,?_⟩;gi_at_call 160;refine(callsIn_wide.2 (cP.out _ (Aa))).mono ?_;rintro e w2 ⟨rfl,hB⟩;have bx:=(Blk.new' rfl:Blk (wr.alloc (.cells #[.int .i64 x.K,.slice p' x.runs.length cp,.int .i64 x.A,.int .i64 x.R,.int .i64 x.n,.int .i64 x.d,.slice q' x.raw.length vc,.int .i64 x.E] 98)) wr.heap.size #[.int .i64 x.K,.slice p' x.runs.length cp,.int .i64 x.A,.int .i64 x.R,.int .i64 x.n,.int .i64 x.d,.slice q' x.raw.length vc,.int .i64 x.E] 98).below hB;have kx:=bx.cell;have zx:=bx.lt;have hAB:=((Below.refl wr.heap.size wr).alloc (Nat.le_refl _) (Obj.cells #[.int .i64 x.K,.slice p' x.runs.length cp,.int .i64 x.A,.int .i64 x.R,.int .i64 x.n,.int .i64 x.d,.slice q' x.raw.length vc,.int .i64 x.E] 98)).trans (hB.mono (by simp));obtain⟨fn,tmps,assign,body,hy,hR⟩:=hY _ (L,x.E) (w2.alloc (.cells #[.int .i64 (L.length:Int),.int .i64 (Aw L),.int .i64 (Ay L),.int .i64 (hiW (Ak L)),.int .u64 (loW (Ak L))] 196)) (By hJ hJk (hAB.alloc hAB.size _)) hroom.out;unfold pcA at hy;dsimp only at hy)
    refine hR.mono ?_
    rintro e W3 ⟨rfl,hJ3,hk3⟩
    gi_wp2
    go_roundw
    case rel=>exact⟨k+1,by omega,by simp,by rw[hst.out];exact hJ3,((hbw.trans (hAB.mono hbw.size)).alloc (by have:=hAB.size;have:=hbw.size;omega) _).trans hk3.below,hk3.blk hS0 ((d1.below hAB).alloc _),hk3.blk hA0 ((d2.below hAB).alloc _),hk3.blk hB0 ((d3.below hAB).alloc _)⟩
    case measure=>simp[intOf];omega
  ·obtain rfl:k=s.segs.length:=by omega
   rw[List.take_length] at hJk
   have k1:=d1.cell
   unfold Cd at k1
   gi_wp2
   clear k1
   gi_loopw [44] (fun i wr=>∃m:Nat,m<=s.opn.length/\i= .int .i64 m/\J (s.segs.flatMap (Dw A b)++C5 A b (s.opn.take m)) wr/\Below w₁.heap.size w₁ wr/\Blk wr Bs (Cd s ps cs po co) 25/\Blk wr Ba #[.int .i64 A] 2/\Blk wr Bb #[.int .i64 b] 2) (fun i _=>s.opn.length-(intOf i).toNat)
   case atStart=>exact⟨0,Nat.zero_le _,rfl,by simpa [C5] using hJk,hbw,d1,d2,d3⟩
   case round=>
    obtain⟨m,hm,rfl,hJm,hbw,d1,d2,d3⟩:=hrel
    have y1:=d1.lt
    have y2:=d2.lt
    have y3:=d3.lt
    rcases Nat.lt_or_ge m s.opn.length with hlm|hgem
    ·obtain⟨⟨t,v⟩,tr⟩:∃t,s.opn[m]? =some t:=⟨s.opn[m]'hlm,List.getElem?_eq_getElem _⟩
     obtain⟨b0,o0,rfl,q0,q1⟩:=(hin.below hbw).opn.at' m _ tr
     simp only at q0 q1
     have hvv:=hI _ (List.mem_of_getElem? tr)
     have zb:=Br q0
     try simp only at zb
     have hst:s.opn.take (m+1)=s.opn.take m++ [(t,v)]:=Js tr
     have cO:=fun W=>O3 v W hvv
     unfold Be at cO
     replace cO:=Hd cO
     have e1:Blk (wr.alloc (.cells #[.int .i64 t,.int .i64 v] 91)) Bs #[.string s.name,.int .i64 s.eps,.int .i64 s.floor,.int .i64 s.last,.int .i64 s.scale,.slice ps s.segs.length cs,.slice (some ⟨b0,o0,none⟩) s.opn.length co] 25:=d1.alloc _
     have e2:=d2.alloc (.cells #[.int .i64 t,.int .i64 v] 91)
     have e3:=d3.alloc (.cells #[.int .i64 t,.int .i64 v] 91)
     have e4:Blk (wr.alloc (.cells #[.int .i64 t,.int .i64 v] 91)) wr.heap.size #[.int .i64 t,.int .i64 v] 91:=Blk.new' rfl
     gi_wp2
     refine Nm 21 73 [] (fun W'=>Rex [] (wr.alloc (.cells #[.int .i64 t,.int .i64 v] 91)) W'/\Blk W' Bs #[.string s.name,.int .i64 s.eps,.int .i64 s.floor,.int .i64 s.last,.int .i64 s.scale,.slice ps s.segs.length cs,.slice (some ⟨b0,o0,none⟩) s.opn.length co] 25/\Blk W' Ba #[.int .i64 A] 2/\Blk W' Bb #[.int .i64 b] 2/\Blk W' wr.heap.size #[.int .i64 t,.int .i64 v] 91) Co (by kernel_rfl) (by kernel_rfl) rfl ⟨(Rex.refl _ _).drew,e1,e2,e3,e4⟩ (fun w w' ⟨h0,h1,h2,h3,h4⟩ hr=>⟨h0.trans hr,h1.rex hr (by simp<;>omega),h2.rex hr (by simp<;>omega),h3.rex hr (by simp<;>omega),h4.rex hr (by simp<;>omega)⟩) ?_
     iterate 18
      first
      |(
       apply Aj (hg:=rfl) (hal:=rfl)
       ·intro a W' hC hE
        obtain⟨_,k1,k2,k3,k4⟩:=hC
        have k2:=k2.cell
        have k3:=k3.cell
        have k4:=k4.cell
        first
         |(simp at hE;simp[go_sem,Act.eval,iw,hE,k1,k2,k3,k4];try rfl)
         |(clear hE;simp[go_sem,Act.eval,iw,k1,k2,k3,k4];try rfl))
      |(
       apply Bn (p:=true) (hg:=rfl) (hd:=rfl) (hal:=rfl)
       ·intro v W' h
        simp[Al,Det,Ap] at h
        simp
        exact h
       ·intro hp hx a W' hC hE
        obtain⟨_,k1,k2,k3,k4⟩:=hC
        have k2:=k2.cell
        have k3:=k3.cell
        have k4:=k4.cell
        simp[hx] at hE
        simp[go_sem,Act.eval,iw,hE,k1,k2,k3,k4]
        try rfl)
      |(
       apply Dq (ho:=rfl) (hg:=rfl)
       ·intro v W' h
        simp at h
        exact h
       ·intro v W' h hx
        simp[hx] at h
        exact h)
     apply Ce (p:=true) (hg:=rfl) (hd:=rfl) (hal:=rfl)
     ·intro v W' h
      simp at h
      simp
      exact h
     ·intro hp hx W' hC
      exact cO.out W'
     ·intro hp hx a W' hC hE
      obtain⟨_,k1,k2,k3,k4⟩:=hC
      have k2:=k2.cell
      have k3:=k3.cell
      have k4:=k4.cell
      first
       |(simp[hx] at hE;simp[go_sem,Act.eval,iw,hE,k1,k2,k3,k4];try rfl)
       |(clear hE;simp[go_sem,Act.eval,iw,k1,k2,k3,k4];try rfl)
     iterate 2
      apply Bn (p:=true) (hg:=rfl) (hd:=rfl) (hal:=rfl)
      ·intro v W' h
       simp[Al,Det,Ap] at h
       simp
       exact h
      ·intro hp hx a W' hC hE
       obtain⟨_,k1,k2,k3,k4⟩:=hC
       have k2:=k2.cell
       have k3:=k3.cell
       have k4:=k4.cell
       simp[hx] at hE
       simp[go_sem,Act.eval,iw,hE,k1,k2,k3,k4]
       try rfl
     rintro W8 ⟨hR,x1,x2,x3,x4⟩
     simp only[Av,Det,forall_eq]
     intros
     simp only[nS]
     have hAB:Below wr.heap.size wr W8:=((Below.refl _ _).alloc (Nat.le_refl _) _).trans (hR.below.mono (by simp))
     have hbw8:=hbw.trans (hAB.mono hbw.size)
     have hJ8:=By hJ hJm hAB
     clear hR hbw hJm d1 d2 d3 e1 e2 e3 e4 q0 q1 cO
     have z1:=x1.lt
     have z2:=x2.lt
     have z3:=x3.lt
     have z4:=x4.lt
     by_cases hsel:A<=t/\t<=b
     ·obtain⟨g1,g2⟩:=hsel
      repeat (rename Ap _ _ _ _=>hgd;obtain rfl:=gdet_on hgd (by simp[g1,g2]);clear hgd)
      have hc:(decide (A<=t)&&decide (t<=b))=true:=by simp[g1,g2]
      rw[hc]
      have hop:C5 A b (s.opn.take (m+1))=C5 A b (s.opn.take m)++ [([v],0)]:=by rw[hst];exact Zv _ g1 g2
      have hroom:(s.segs.flatMap (Dw A b)++C5 A b (s.opn.take m))++ [([v],0)]<+:s.segs.flatMap (Dw A b)++C5 A b s.opn:=by
       have e:C5 A b s.opn=C5 A b (s.opn.take (m+1))++C5 A b (s.opn.drop (m+1)):=by unfold C5;rw[<-List.map_append,<-List.filter_append,List.take_append_drop]
       rw[e,hop]
       exact⟨C5 A b (s.opn.drop (m+1)),by simp⟩
      obtain⟨fn,tmps,assign,body,hy,hR⟩:=hY _ ([v],0) W8 hJ8 hroom
      rw[show pcA ([v],(0:Int)).1 ([v],(0:Int)).2= #[.int .i64 1,.int .i64 v,.int .i64 v,.int .i64 (hiW v),.int .u64 (loW v),.int .i64 0] by simp[pcA,Aw,Ay,Ak]] at hy
      replace hop:=Hd hop
      clear hc g1 g2 hroom hst tr hJ8
      gi_wp2
      refine hR.mono ?_
      rintro e W3 ⟨rfl,hJ3,hk3⟩
      gi_wp2
      go_roundw
      case rel=>exact⟨m+1,by omega,by simp,by rw[hop.out,<-List.append_assoc];exact hJ3,hbw8.trans hk3.below,hk3.blk hS0 x1,hk3.blk hA0 x2,hk3.blk hB0 x3⟩
      case measure=>simp[intOf];omega
     ·have hc:(decide (A<=t)&&decide (t<=b))=false:=by
       cases h:(decide (A<=t)&&decide (t<=b)) with
       |false=>rfl
       |true=>simp at h;exact absurd h hsel
      have hcc:(true&&(decide (A<=t)&&decide (t<=b))==true)=false:=by rw[hc];rfl
      repeat (rename Ap _ _ _ _=>hgd;first|(have hq:=gdet_off hgd hcc;subst hq;clear hgd)|clear hgd)
      clear hcc
      rw[hc]
      have hop:=Hd (show C5 A b (s.opn.take (m+1))=C5 A b (s.opn.take m) by rw[hst];exact Xn _ hsel)
      clear hc hsel hst tr
      gi_wp2
      refine⟨fun _ _=>trivial,?_⟩
      gi_wp2
      go_roundw
      case rel=>exact⟨m+1,by omega,by simp,by rw[hop.out];exact hJ8,hbw8,x1,x2,x3⟩
      case measure=>simp[intOf];omega
    ·obtain rfl:m=s.opn.length:=by omega
     rw[List.take_length] at hJm
     gi_wp2
     simp only[Exit.noGoto]
     refine bodyPost_end (results_none rfl _ _ _) rfl ?_
     exact⟨⟨_,rfl⟩,hJm⟩
end Go.Proofs.YtidfcoooccblaaaGreat
namespace Go.Proofs.YtidfcoooccblaaaGreat
open Go.RowKit Go.Shelf
attribute [local go_sem] Oper.semAt_some
theorem KeepsOthers.of_rex {A C:World} {g:Nat} {cs:Array Value} {t:TypeId} (h:Rex [g] A C) (hg:Blk A g cs t):KeepsOthers A C:=⟨h.size,fun k o hk ho=>(h.block k (Cf hk) (fun e=>by
 simp at e
 subst e
 unfold Blk at hg
 rw[hg] at hk
 injection hk with hk
 subst hk
 cases ho)).trans hk⟩
theorem Va (nm:ByteArray) (ep fl la sc:Int) (ps po:Option Addr) (ns cs no co:Nat) (a b:Int) (w:World):
  Calls Tryz.prog 107 #[.agg #[.string nm,ep,fl,la,sc,.slice ps ns cs,.slice po no co],a,b] w fun e w'=>
   e= .returned (.func (.func 159) #[] #[.pointer (some ⟨w.heap.size+1,0,none⟩),.pointer (some ⟨w.heap.size,0,none⟩),.pointer (some ⟨w.heap.size+1+1,0,none⟩)])/\w'=((w.alloc (.cells #[.string nm,ep,fl,la,sc,.slice ps ns cs,.slice po no co] 25)).alloc (.cells #[a] 2)).alloc (.cells #[b] 2):=by
 have hmf:∀(fn:Fn) (first cap:Array Value) (w:World),(Instr.makeFunc fn first cap).run Tryz.prog w= .ok (.func fn first cap) w:=fun _ _ _ _=>rfl
 go_enter Tryz.func107,Tryz.ntmps107
 go_wp2
 go_ret
 exact⟨by simp,rfl⟩
def PcOk (x:List Int×Int):Prop:=x.1≠ []/\x.1.length<=256/\0<=x.2/\x.2<=1099511627776/\∀v,v∈x.1-> -2305844108725321728<=v/\v<=2305844108725321728
theorem Nv {s:A4} (h:Cw s=true):0<=s.E/\s.E<=1099511627776:=by
 unfold Cw at h
 simp only[Bool.and_eq_true,decide_eq_true_eq,<-and_assoc] at h
 exact⟨h.1.1.2,h.1.2⟩
 --,h.2.1.2⟩
theorem Zr {s:A3} (hv:∀x,x∈s.segs->Cw x=true) (ho:∀x,x∈s.opn-> -2305844108725321728<=x.2/\x.2<=2305844108725321728) (a b:Int):∀x,x∈Kc s a b->PcOk x:=by
 intro x hx
 unfold Kc at hx
 rcases List.mem_append.1 hx with hx|hx
 ·obtain⟨y,hy,hxy⟩:=List.mem_flatMap.1 hx
  have hs:=hv y hy
  have he:=Nv hs
  unfold Dw at hxy
  split at hxy
  ·cases hxy
  ·rename_i hne
   rw[List.mem_singleton.1 hxy]
   refine⟨hne,?_,he.1,he.2,?_⟩
   ·have h1:(K7 (mx a s.floor) b (B2 y)).length<=(B2 y).length:=by unfold K7;rw[List.length_map];exact List.length_filter_le _ _
    have h2:=Ew hs
    have h3:=(Da (Bj hs)).2
    simp only
    omega
   ·intro v hv'
    unfold K7 at hv'
    obtain⟨p,hp,rfl⟩:=List.mem_map.1 hv'
    exact Lt hs (by rw[<-Ng hs];exact List.mem_map_of_mem ((List.mem_filter.1 hp).1))
 ·unfold C5 at hx
  obtain⟨p,hp,rfl⟩:=List.mem_map.1 hx
  have:=ho p ((List.mem_filter.1 hp).1)
  refine⟨by simp,by simp,by omega,by omega,fun v hv'=> ?_⟩
  obtain rfl:v=p.2:=by simpa using hv'
  exact this
theorem Pe {x:List Int×Int} (h:PcOk x):∀y,y∈pairs x-> -2305844108725321728<=y.1/\y.1<=2305844108725321728/\0<=y.2/\y.2<=1099511627776:=by
 intro y hy
 unfold pairs at hy
 obtain⟨v,hv,rfl⟩:=List.mem_map.1 hy
 have:=h.2.2.2.2 v hv
 exact⟨this.1,this.2,h.2.2.1,h.2.2.2.1⟩
theorem Vy {s:A3} (h1:s.segs.length<=100) (h2:s.opn.length<=100) (a b:Int):(Kc s a b).length<=200:=by
 have:=Gt (Dw (mx a s.floor) b) 1 s.segs fun x _=>by unfold Dw;split<;>simp
 have h3:(C5 (mx a s.floor) b s.opn).length<=s.opn.length:=by unfold C5;rw[List.length_map];exact List.length_filter_le _ _
 unfold Kc
 rw[List.length_append]
 omega
theorem P9 :shA []= #[.int .i64 0,.int .i64 0,.int .i64 0,.int .i64 0,.int .i64 0,.int .i64 0,.int .u64 0,.int .i64 0,.int .u64 0]:=by unfold shA loL hiL;simp[Aw,Ay,Ak,hiW,loW]
def Jo (s:A3) (a b:Int) (e:Ending):Prop:=e= .returned (.tuple #[.agg (shA ((Kc s a b).flatMap pairs)),.int .i64 (if (Kc s a b).flatMap pairs= [] then 9 else 0)])
theorem Wh (s:A3) (ps po:Option Addr) (cs co:Nat) (a b:Int) (gs ga gb:Nat) (w:World) (hin:A9 w s ps po) (hv:∀x,x∈s.segs->Cw x=true) (ho:∀x,x∈s.opn-> -2305844108725321728<=x.2/\x.2<=2305844108725321728) (hb: -9223372036854775808<=b)
  (kS:Blk w gs (Cd s ps cs po co) 25) (kA:Blk w ga #[a] 2) (kB:Blk w gb #[b] 2):
  CallsIn Fence.wide 4 Tryz.prog 105 #[.pointer (some ⟨gs,0,none⟩),.pointer (some ⟨ga,0,none⟩),.pointer (some ⟨gb,0,none⟩)] w fun e w'=>Jo s a b e/\Below w.heap.size w w':=by
 have hok:=Zr hv ho a b
 have hfew:=Vy hin.fewS hin.fewO a b
 have hmf:∀(fn:Fn) (first cap:Array Value) (w:World),(Instr.makeFunc fn first cap).run Tryz.prog w= .ok (.func fn first cap) w:=fun _ _ _ _=>rfl
 replace hok:=Hd hok
 replace hfew:=Hd hfew
 unfold Cd at kS
 refine callsIn_of_wp_marks Tryz.func105 rfl trivial ?_ rfl
 simp only[Tryz.ntmps105,List.size_toArray,List.length_cons,List.length_nil,Nat.reduceAdd,Nat.reduceSub,Array.replicate_succ,Array.replicate_zero,List.push_toArray,List.append_toArray,List.nil_append,List.cons_append]
 refine wpIn_wide.2 ?_
 go_upto_region 3 with(fail)
 refine Ac w (Bc gs #[.string s.name,s.eps,s.floor,s.last,s.scale,.slice ps s.segs.length cs,.slice po s.opn.length co] 25<|Bc ga #[a] 2<|Bc gb #[b] 2<|Bc w.heap.size #[.int .i64 0,.int .i64 0,.int .i64 0,.int .i64 0,.int .i64 0,.int .i64 0,.int .u64 0,.int .i64 0,.int .u64 0] 38<|Bc (w.heap.size+1) #[.int .i64 0,.int .i64 0,.int .i64 0,.int .i64 0,.int .i64 0,.int .i64 0,.int .u64 0,.int .i64 0,.int .u64 0] 190<|Bc (w.heap.size+1+1) #[.func (.func 106) #[.pointer (some ⟨w.heap.size+1,0,none⟩)] #[]] 191<|Bz) ?_
 rintro W1 hW z2 ⟨⟨b1,yb1,k1,f1⟩,⟨b2,yb2,k2,f2⟩,⟨b3,yb3,k3,f3⟩,⟨b4,yb4,k4,f4⟩,⟨b5,yb5,k5,f5⟩,⟨b6,yb6,k6,f6⟩,-⟩
 go_wp2_with fail
 refine(Va _ _ _ _ _ _ _ _ _ _ _ _ _ _).mono ?_
 rintro e w' ⟨rfl,rfl⟩
 have c1:Below w.heap.size w (((W1.alloc (.cells #[.string s.name,s.eps,s.floor,s.last,s.scale,.slice ps s.segs.length cs,.slice po s.opn.length co] 25)).alloc (.cells #[a] 2)).alloc (.cells #[b] 2)):=Aa
 have d1:Blk (((W1.alloc (.cells #[.string s.name,s.eps,s.floor,s.last,s.scale,.slice ps s.segs.length cs,.slice po s.opn.length co] 25)).alloc (.cells #[a] 2)).alloc (.cells #[b] 2)) w.heap.size #[.int .i64 0,.int .i64 0,.int .i64 0,.int .i64 0,.int .i64 0,.int .i64 0,.int .u64 0,.int .i64 0,.int .u64 0] 38:=Ab
 have d2:Blk (((W1.alloc (.cells #[.string s.name,s.eps,s.floor,s.last,s.scale,.slice ps s.segs.length cs,.slice po s.opn.length co] 25)).alloc (.cells #[a] 2)).alloc (.cells #[b] 2)) (w.heap.size+1) #[.int .i64 0,.int .i64 0,.int .i64 0,.int .i64 0,.int .i64 0,.int .i64 0,.int .u64 0,.int .i64 0,.int .u64 0] 190:=Ab
 have d3:Blk (((W1.alloc (.cells #[.string s.name,s.eps,s.floor,s.last,s.scale,.slice ps s.segs.length cs,.slice po s.opn.length co] 25)).alloc (.cells #[a] 2)).alloc (.cells #[b] 2)) (w.heap.size+1+1) #[.func (.func 106) #[.pointer (some ⟨w.heap.size+1,0,none⟩)] #[]] 191:=Ab
 have d4:Blk (((W1.alloc (.cells #[.string s.name,s.eps,s.floor,s.last,s.scale,.slice ps s.segs.length cs,.slice po s.opn.length co] 25)).alloc (.cells #[a] 2)).alloc (.cells #[b] 2)) W1.heap.size #[.string s.name,s.eps,s.floor,s.last,s.scale,.slice ps s.segs.length cs,.slice po s.opn.length co] 25:=Ab
 have d5:Blk (((W1.alloc (.cells #[.string s.name,s.eps,s.floor,s.last,s.scale,.slice ps s.segs.length cs,.slice po s.opn.length co] 25)).alloc (.cells #[a] 2)).alloc (.cells #[b] 2)) (W1.heap.size+1) #[a] 2:=Ab
 have d6:Blk (((W1.alloc (.cells #[.string s.name,s.eps,s.floor,s.last,s.scale,.slice ps s.segs.length cs,.slice po s.opn.length co] 25)).alloc (.cells #[a] 2)).alloc (.cells #[b] 2)) (W1.heap.size+1+1) #[b] 2:=Ab
 have hsz:(((W1.alloc (.cells #[.string s.name,s.eps,s.floor,s.last,s.scale,.slice ps s.segs.length cs,.slice po s.opn.length co] 25)).alloc (.cells #[a] 2)).alloc (.cells #[b] 2)).heap.size=W1.heap.size+1+1+1:=by simp
 obtain⟨W0,hWe⟩:∃W0,W0=(((W1.alloc (.cells #[.string s.name,s.eps,s.floor,s.last,s.scale,.slice ps s.segs.length cs,.slice po s.opn.length co] 25)).alloc (.cells #[a] 2)).alloc (.cells #[b] 2)):=⟨_,rfl⟩
 rw[<-hWe] at c1 d1 d2 d3 d4 d5 d6 hsz⊢
 have zB:=b6.lt
 have zV:=hW.size
 clear hWe b1 b2 b3 b4 b5 b6 k1 k2 k3 k4 k5 k6 f1 f2 f3 f4 f5 f6
 go_wp2
 refine(wpIn_wide (n:=4)).1 ?_
 refine Qd rfl (by omega) (gf:=159) (lb:= #[.pointer (some ⟨W1.heap.size+1,0,none⟩),.pointer (some ⟨W1.heap.size,0,none⟩),.pointer (some ⟨W1.heap.size+1+1,0,none⟩)]) rfl trivial (enters_of Tryz.func159 (by kernel_rfl) rfl)
  (encs:=fun x:List Int×Int=> #[Value.agg (pcA x.1 x.2)]) (Kp:=KF w.heap.size W1.heap.size) (xs:=Kc s a b) (Ba:=W1.heap.size+1) (by omega)
  (fun lr J W hWW hJ hJw hY h0=>Rk 3 (by omega) lr (W1.heap.size+1) W1.heap.size (W1.heap.size+1+1) W1.heap.size s ps po cs co a b w hin hv (fun x hx=>by have:=ho x hx;unfold I64;omega) hb zV (by omega) (by omega) (by omega) (by omega) (by omega) J _ hJ hJw hY W (c1.trans (hWW.mono c1.size)) (d4.below hWW) (d5.below hWW) (d6.below hWW) h0)
  (fun h k=>h.trans k) (KF.putObj (by omega)) (fun _=>rfl)
  (fun pre W=>((Blk W w.heap.size #[.int .i64 0,.int .i64 0,.int .i64 0,.int .i64 0,.int .i64 0,.int .i64 0,.int .u64 0,.int .i64 0,.int .u64 0] 38/\Blk W (w.heap.size+1+1) #[.func (.func 106) #[.pointer (some ⟨w.heap.size+1,0,none⟩)] #[]] 191)/\Blk W (w.heap.size+1) (shA (pre.flatMap pairs)) 190)/\Below w.heap.size w W)
  (OwnFrom.and (OwnFrom.and (OwnFrom.and (Own.from (D0 _ _ _) _) (Own.from (D0 _ _ _) _)) (Own.from (D0 _ _ (fun pre=>shA (List.flatMap pairs pre))) _)) (ownFrom_below (Nat.le_refl _) (by omega)))
  (fun pre W v ⟨⟨⟨i1,i2⟩,i3⟩,i4⟩=>⟨⟨⟨i1.setO (by omega) 0 v,i2.setO (by omega) 0 v⟩,i3.setO (by omega) 0 v⟩,i4.setCell (p:=⟨W1.heap.size+1,0,none⟩) (by simp;omega) v⟩)
  ⟨⟨⟨d1,d3⟩,by rw[show List.flatMap pairs ([]:List (List Int×Int))= [] from rfl,P9];exact d2⟩,c1⟩
  (fun x a' W=>∃Bx,w.heap.size+1+1<Bx/\Blk W Bx #[.int .i64 (x.1.length:Int),.int .i64 (Aw x.1),.int .i64 (Ay x.1),.int .i64 (hiW (Ak x.1)),.int .u64 (loW (Ak x.1)),x.2] 198/\a'= {tmps:= #[.pointer (some ⟨gs,0,none⟩),.pointer (some ⟨ga,0,none⟩),.pointer (some ⟨gb,0,none⟩),.pointer (some ⟨w.heap.size,0,none⟩),.int .i64 0,.pointer (some ⟨w.heap.size+1,0,none⟩),.pointer (some ⟨w.heap.size+1+1,0,none⟩),.pointer (some ⟨Bx,0,none⟩),.func (.func 106) #[.pointer (some ⟨w.heap.size+1,0,none⟩)] #[],.agg #[.string s.name,s.eps,s.floor,s.last,s.scale,.slice ps s.segs.length cs,.slice po s.opn.length co],a,b,.func (.func 159) #[] #[.pointer (some ⟨W1.heap.size+1,0,none⟩),.pointer (some ⟨W1.heap.size,0,none⟩),.pointer (some ⟨W1.heap.size+1+1,0,none⟩)],.agg #[.int .i64 (x.1.length:Int),.int .i64 (Aw x.1),.int .i64 (Ay x.1),.int .i64 (hiW (Ak x.1)),.int .u64 (loW (Ak x.1)),x.2],undef,undef,undef,undef,undef,undef,undef,undef,undef,undef],defers:= []})
  (fun x a' _ X Y row hs hg hr=>by obtain⟨Bx,h1,h2,h3⟩:=hs;exact⟨Bx,h1,D0 Bx 198 (fun(_:Unit)=> #[.int .i64 (x.1.length:Int),.int .i64 (Aw x.1),.int .i64 (Ay x.1),.int .i64 (hiW (Ak x.1)),.int .u64 (loW (Ak x.1)),x.2]) () X Y row h2 hg (fun r e=>(hr r e).2),h3⟩) ?assign ?body ?done
 case assign=>
  rintro l pre x W K ⟨⟨⟨i1,i2⟩,i3⟩,i4⟩ hK
  have hlt:=i2.lt
  have hz:=i4.size
  unfold pcA
  gi_wp2
  exact hK _ _ ((KeepsOthers.alloc _ _).from _) ((KF.refl _ _ _).alloc hz _) ⟨⟨⟨i1.alloc _,i2.alloc _⟩,i3.alloc _⟩,i4.alloc hz _⟩ ⟨W.heap.size,hlt,Blk.new' rfl,rfl⟩
 case body=>
  rintro l pre x a' W ⟨⟨⟨i1,i2⟩,i3⟩,i4⟩ ⟨Bx,hBx,bX,rfl⟩ hp
  have hlt:=i2.lt
  have hlt3:=i3.lt
  have hltX:=bX.lt
  have hz:=i4.size
  have hx:=hok.out x (hp.subset (by simp))
  have hpl:pre.length<=200:=by have h1:=hp.length_le;have h2:=hfew.out;rw[List.length_append] at h1;omega
  have hpm:∀y,y∈pre->PcOk y:=fun y hy=>hok.out y (hp.subset (by simp[hy]))
  have hfl:(pre.flatMap pairs).length<=100000:=by
   have:=Gt pairs 256 pre fun y hy=>by unfold pairs;rw[List.length_map];exact(hpm y hy).2.1
   omega
  have ct:=c_take (w.heap.size+1) (pre.flatMap pairs) x.1 x.2 W i3 hx.1 hx.2.2.1 hx.2.2.2.1 hx.2.2.2.2 (by have:=hx.2.1;omega) (fun y hy=>by obtain⟨g,hg,hyg⟩:=List.mem_flatMap.1 hy;exact Pe (hpm g hg) y hyg) hfl
  unfold pcA at ct
  replace ct:=Hd ct
  have hfm:(pre++ [x]).flatMap pairs=pre.flatMap pairs++pairs (x.1,x.2):=by simp
  replace hfm:=Hd hfm
  clear hx hpl hpm hfl hp
  have k2:=i2.cell
  have kx:=bX.cell
  gi_wp2_with (refine⟨trivial,?_⟩;gi_at_call 106;refine(CallsIn.inRound l (callsIn_wide.2 ct.out)).mono ?_;rintro e w2 ⟨rfl,hR,hb2⟩)
  refine⟨(KeepsOthers.of_rex hR i3).from _,⟨hR.of_priv hz (by simp),fun q cs t f hq hh=>(hR.block q (Cf hh) (fun e=>by simp at e;omega)).trans hh⟩,⟨⟨i1.rex hR (by simp),i2.rex hR (by simp)⟩,?_⟩,i4.trans (hR.of_priv hz (by simp))⟩
  rw[hfm.out]
  exact hb2
 case done=>
  rintro D W hD ⟨⟨⟨i1,i2⟩,i3⟩,i4⟩ hK
  have hz:=i4.size
  have y1:=i1.lt
  have y3:=i3.lt
  obtain⟨L,hL⟩:∃L,(Kc s a b).flatMap pairs=L:=⟨_,rfl⟩
  have i5:=i3
  rw[hL] at i3 i5
  unfold shA at i3
  have k3:=i3.cell
  have k1:=i1.cell
  have f1:=i1.frozen
  replace hL:=Hd hL
  simp only[Exit.inBlock,Exit.then]
  by_cases hne:L= []
  ·have hl0:((L.length:Int)==0)=true:=by rw[hne];rfl
   have hw:=Hd (show Jo s a b (.returned (.tuple #[.agg #[.int .i64 0,.int .i64 0,.int .i64 0,.int .i64 0,.int .i64 0,.int .i64 0,.int .u64 0,.int .i64 0,.int .u64 0],.int .i64 9])) by unfold Jo;rw[hL.out,hne,P9,if_pos rfl])
   clear hne
   go_wp2
   have b9:Blk (((((((((W.setCell ⟨w.heap.size,0,none⟩ (.int .i64 0)).setCell ⟨w.heap.size,1,none⟩ (.int .i64 0)).setCell ⟨w.heap.size,2,none⟩ (.int .i64 0)).setCell ⟨w.heap.size,3,none⟩ (.int .i64 0)).setCell ⟨w.heap.size,4,none⟩ (.int .i64 0)).setCell ⟨w.heap.size,5,none⟩ (.int .i64 0)).setCell ⟨w.heap.size,6,none⟩ (.int .u64 0)).setCell ⟨w.heap.size,7,none⟩ (.int .i64 0)).setCell ⟨w.heap.size,8,none⟩ (.int .u64 0)) w.heap.size #[.int .i64 0,.int .i64 0,.int .i64 0,.int .i64 0,.int .i64 0,.int .i64 0,.int .u64 0,.int .i64 0,.int .u64 0] 38:=Ab
   have hB9:Below w.heap.size w (((((((((W.setCell ⟨w.heap.size,0,none⟩ (.int .i64 0)).setCell ⟨w.heap.size,1,none⟩ (.int .i64 0)).setCell ⟨w.heap.size,2,none⟩ (.int .i64 0)).setCell ⟨w.heap.size,3,none⟩ (.int .i64 0)).setCell ⟨w.heap.size,4,none⟩ (.int .i64 0)).setCell ⟨w.heap.size,5,none⟩ (.int .i64 0)).setCell ⟨w.heap.size,6,none⟩ (.int .u64 0)).setCell ⟨w.heap.size,7,none⟩ (.int .i64 0)).setCell ⟨w.heap.size,8,none⟩ (.int .u64 0)):=Aa
   have hK9:(((((((((W.setCell ⟨w.heap.size,0,none⟩ (.int .i64 0)).setCell ⟨w.heap.size,1,none⟩ (.int .i64 0)).setCell ⟨w.heap.size,2,none⟩ (.int .i64 0)).setCell ⟨w.heap.size,3,none⟩ (.int .i64 0)).setCell ⟨w.heap.size,4,none⟩ (.int .i64 0)).setCell ⟨w.heap.size,5,none⟩ (.int .i64 0)).setCell ⟨w.heap.size,6,none⟩ (.int .u64 0)).setCell ⟨w.heap.size,7,none⟩ (.int .i64 0)).setCell ⟨w.heap.size,8,none⟩ (.int .u64 0)).heap[D]? =some (.deferred (some [])):=(Dr:KeepsOthers _ (((((((((W.setCell ⟨w.heap.size,0,none⟩ (.int .i64 0)).setCell ⟨w.heap.size,1,none⟩ (.int .i64 0)).setCell ⟨w.heap.size,2,none⟩ (.int .i64 0)).setCell ⟨w.heap.size,3,none⟩ (.int .i64 0)).setCell ⟨w.heap.size,4,none⟩ (.int .i64 0)).setCell ⟨w.heap.size,5,none⟩ (.int .i64 0)).setCell ⟨w.heap.size,6,none⟩ (.int .u64 0)).setCell ⟨w.heap.size,7,none⟩ (.int .i64 0)).setCell ⟨w.heap.size,8,none⟩ (.int .u64 0))).same D _ hK rfl
   obtain⟨W9,hW9⟩:∃W9,W9=(((((((((W.setCell ⟨w.heap.size,0,none⟩ (.int .i64 0)).setCell ⟨w.heap.size,1,none⟩ (.int .i64 0)).setCell ⟨w.heap.size,2,none⟩ (.int .i64 0)).setCell ⟨w.heap.size,3,none⟩ (.int .i64 0)).setCell ⟨w.heap.size,4,none⟩ (.int .i64 0)).setCell ⟨w.heap.size,5,none⟩ (.int .i64 0)).setCell ⟨w.heap.size,6,none⟩ (.int .u64 0)).setCell ⟨w.heap.size,7,none⟩ (.int .i64 0)).setCell ⟨w.heap.size,8,none⟩ (.int .u64 0)):=⟨_,rfl⟩
   rw[<-hW9] at b9 hB9 hK9⊢
   clear hW9
   have b9':Blk (W9.putObj D (.deferred none)) w.heap.size #[.int .i64 0,.int .i64 0,.int .i64 0,.int .i64 0,.int .i64 0,.int .i64 0,.int .u64 0,.int .i64 0,.int .u64 0] 38:=(World.putObj_heap_other (by omega)).trans b9
   simp only[bodyPostM]
   refine⟨by simp,.inl ⟨_,_,rfl,run_takeDeferred hK9,?_⟩⟩
   have k9:=b9'.cell
   have y9:=b9'.lt
   refine⟨.tuple #[.agg #[.int .i64 0,.int .i64 0,.int .i64 0,.int .i64 0,.int .i64 0,.int .i64 0,.int .u64 0,.int .i64 0,.int .u64 0],.int .i64 9],by simp[results,Tryz.f105,go_sem,k9],hw.out,hB9.trans (belowK_b (w:=w) (Nat.le_refl _) W9 D _ _ (by omega) hK9 rfl rfl)⟩
  ·have hl0:((L.length:Int)==0)=false:=by simpa using hne
   have hw:=Hd (show Jo s a b (.returned (.tuple #[.agg (shA L),.int .i64 0])) by unfold Jo;rw[hL.out,if_neg hne])
   clear hne
   go_wp2
   have b9:Blk (((((((((W.setCell ⟨w.heap.size,0,none⟩ (.int .i64 (L.length:Int))).setCell ⟨w.heap.size,1,none⟩ (.int .i64 (Aw (loL L)))).setCell ⟨w.heap.size,2,none⟩ (.int .i64 (Aw (hiL L)))).setCell ⟨w.heap.size,3,none⟩ (.int .i64 (Ay (loL L)))).setCell ⟨w.heap.size,4,none⟩ (.int .i64 (Ay (hiL L)))).setCell ⟨w.heap.size,5,none⟩ (.int .i64 (hiW (Ak (loL L))))).setCell ⟨w.heap.size,6,none⟩ (.int .u64 (loW (Ak (loL L))))).setCell ⟨w.heap.size,7,none⟩ (.int .i64 (hiW (Ak (hiL L))))).setCell ⟨w.heap.size,8,none⟩ (.int .u64 (loW (Ak (hiL L))))) w.heap.size (shA L) 38:=by unfold shA;exact Ab
   have hB9:Below w.heap.size w (((((((((W.setCell ⟨w.heap.size,0,none⟩ (.int .i64 (L.length:Int))).setCell ⟨w.heap.size,1,none⟩ (.int .i64 (Aw (loL L)))).setCell ⟨w.heap.size,2,none⟩ (.int .i64 (Aw (hiL L)))).setCell ⟨w.heap.size,3,none⟩ (.int .i64 (Ay (loL L)))).setCell ⟨w.heap.size,4,none⟩ (.int .i64 (Ay (hiL L)))).setCell ⟨w.heap.size,5,none⟩ (.int .i64 (hiW (Ak (loL L))))).setCell ⟨w.heap.size,6,none⟩ (.int .u64 (loW (Ak (loL L))))).setCell ⟨w.heap.size,7,none⟩ (.int .i64 (hiW (Ak (hiL L))))).setCell ⟨w.heap.size,8,none⟩ (.int .u64 (loW (Ak (hiL L))))):=Aa
   have hK9:(((((((((W.setCell ⟨w.heap.size,0,none⟩ (.int .i64 (L.length:Int))).setCell ⟨w.heap.size,1,none⟩ (.int .i64 (Aw (loL L)))).setCell ⟨w.heap.size,2,none⟩ (.int .i64 (Aw (hiL L)))).setCell ⟨w.heap.size,3,none⟩ (.int .i64 (Ay (loL L)))).setCell ⟨w.heap.size,4,none⟩ (.int .i64 (Ay (hiL L)))).setCell ⟨w.heap.size,5,none⟩ (.int .i64 (hiW (Ak (loL L))))).setCell ⟨w.heap.size,6,none⟩ (.int .u64 (loW (Ak (loL L))))).setCell ⟨w.heap.size,7,none⟩ (.int .i64 (hiW (Ak (hiL L))))).setCell ⟨w.heap.size,8,none⟩ (.int .u64 (loW (Ak (hiL L))))).heap[D]? =some (.deferred (some [])):=(Dr:KeepsOthers _ (((((((((W.setCell ⟨w.heap.size,0,none⟩ (.int .i64 (L.length:Int))).setCell ⟨w.heap.size,1,none⟩ (.int .i64 (Aw (loL L)))).setCell ⟨w.heap.size,2,none⟩ (.int .i64 (Aw (hiL L)))).setCell ⟨w.heap.size,3,none⟩ (.int .i64 (Ay (loL L)))).setCell ⟨w.heap.size,4,none⟩ (.int .i64 (Ay (hiL L)))).setCell ⟨w.heap.size,5,none⟩ (.int .i64 (hiW (Ak (loL L))))).setCell ⟨w.heap.size,6,none⟩ (.int .u64 (loW (Ak (loL L))))).setCell ⟨w.heap.size,7,none⟩ (.int .i64 (hiW (Ak (hiL L))))).setCell ⟨w.heap.size,8,none⟩ (.int .u64 (loW (Ak (hiL L)))))).same D _ hK rfl
   obtain⟨W9,hW9⟩:∃W9,W9=(((((((((W.setCell ⟨w.heap.size,0,none⟩ (.int .i64 (L.length:Int))).setCell ⟨w.heap.size,1,none⟩ (.int .i64 (Aw (loL L)))).setCell ⟨w.heap.size,2,none⟩ (.int .i64 (Aw (hiL L)))).setCell ⟨w.heap.size,3,none⟩ (.int .i64 (Ay (loL L)))).setCell ⟨w.heap.size,4,none⟩ (.int .i64 (Ay (hiL L)))).setCell ⟨w.heap.size,5,none⟩ (.int .i64 (hiW (Ak (loL L))))).setCell ⟨w.heap.size,6,none⟩ (.int .u64 (loW (Ak (loL L))))).setCell ⟨w.heap.size,7,none⟩ (.int .i64 (hiW (Ak (hiL L))))).setCell ⟨w.heap.size,8,none⟩ (.int .u64 (loW (Ak (hiL L))))):=⟨_,rfl⟩
   rw[<-hW9] at b9 hB9 hK9⊢
   clear hW9
   have b9':Blk (W9.putObj D (.deferred none)) w.heap.size (shA L) 38:=(World.putObj_heap_other (by omega)).trans b9
   simp only[bodyPostM]
   refine⟨by simp,.inl ⟨_,_,rfl,run_takeDeferred hK9,?_⟩⟩
   unfold shA at b9'
   have k9:=b9'.cell
   have y9:=b9'.lt
   refine⟨.tuple #[.agg (shA L),.int .i64 0],by unfold shA;simp[results,Tryz.f105,go_sem,k9],hw.out,hB9.trans (belowK_b (w:=w) (Nat.le_refl _) W9 D _ _ (by omega) hK9 rfl rfl)⟩
end Go.Proofs.YtidfcoooccblaaaGreat
namespace Go.Proofs.YtidfcoooccblaaaGreat
open Go.RowKit
theorem Y6 (nm:ByteArray) (ep fl la sc:Int) (ps po:Option Addr) (ns cs no co:Nat) (gs ga gb:Nat) (w:World)
  (c1:∀W,Below w.heap.size w W->Cb 14 #[.agg #[.string nm,ep,fl,la,sc,.slice ps ns cs,.slice po no co]] W (.int .i64 340)):
  Cb 104 #[.agg #[.string nm,ep,fl,la,sc,.slice ps ns cs,.slice po no co],.func (.func 105) #[] #[.pointer (some ⟨gs,0,none⟩),.pointer (some ⟨ga,0,none⟩),.pointer (some ⟨gb,0,none⟩)]] w (.tuple #[.agg #[.int .i64 0,.int .i64 0,.int .i64 0,.int .i64 0,.int .i64 0,.int .i64 0,.int .u64 0,.int .i64 0,.int .u64 0],.int .i64 340]):=by
 have H_c1:=Hd c1
 clear c1
 go_enter Tryz.func104,Tryz.ntmps104
 go_wp2_with fail
 refine(H_c1.out _ Aa).mono ?_
 rintro e w1 ⟨rfl,hb1⟩
 have z2:=hb1.size
 try simp at z2
 refine Ad w w1 (Bc w.heap.size #[.string nm,ep,fl,la,sc,.slice ps ns cs,.slice po no co] 25<|Bc (w.heap.size+1) #[.int .i64 0,.int .i64 0,.int .i64 0,.int .i64 0,.int .i64 0,.int .i64 0,.int .u64 0,.int .i64 0,.int .u64 0] 38<|Bz) ?_
 rintro hW z3 ⟨⟨b1,yb1,k1,f1⟩,⟨b2,yb2,k2,f2⟩,-⟩
 clear hb1
 go_wp2
 refine bodyPost_ret (by simp[results,Tryz.results104,go_sem,k1,f1,k2,f2,yb1,yb2]) rfl ⟨rfl,by exact Aa⟩
theorem told_ok (nm:ByteArray) (ep fl la sc:Int) (ps po:Option Addr) (ns cs no co:Nat) (gs ga gb:Nat) (n x1 x2 y1 y2 s1 s2 s3 s4 er:Int) (w:World)
  (c1:∀W,Below w.heap.size w W->Cb 14 #[.agg #[.string nm,ep,fl,la,sc,.slice ps ns cs,.slice po no co]] W (.int .i64 0))
  (c2:∀W,Below w.heap.size w W->Cb 105 #[.pointer (some ⟨gs,0,none⟩),.pointer (some ⟨ga,0,none⟩),.pointer (some ⟨gb,0,none⟩)] W (.tuple #[.agg #[n,x1,x2,y1,y2,s1,.int .u64 s2,s3,.int .u64 s4],er])):
  Cb 104 #[.agg #[.string nm,ep,fl,la,sc,.slice ps ns cs,.slice po no co],.func (.func 105) #[] #[.pointer (some ⟨gs,0,none⟩),.pointer (some ⟨ga,0,none⟩),.pointer (some ⟨gb,0,none⟩)]] w (.tuple #[.agg #[n,x1,x2,y1,y2,s1,.int .u64 s2,s3,.int .u64 s4],er]):=by
 have H_c1:=Hd c1
 clear c1
 have H_c2:=Hd c2
 clear c2
 go_enter Tryz.func104,Tryz.ntmps104
 go_wp2_with fail
 refine(H_c1.out _ Aa).mono ?_
 rintro e w1 ⟨rfl,hb1⟩
 have z2:=hb1.size
 try simp at z2
 refine Ad w w1 (Bc w.heap.size #[.string nm,ep,fl,la,sc,.slice ps ns cs,.slice po no co] 25<|Bc (w.heap.size+1) #[.int .i64 0,.int .i64 0,.int .i64 0,.int .i64 0,.int .i64 0,.int .i64 0,.int .u64 0,.int .i64 0,.int .u64 0] 38<|Bz) ?_
 rintro hW z3 ⟨⟨b1,yb1,k1,f1⟩,⟨b2,yb2,k2,f2⟩,-⟩
 clear hb1
 go_wp2_with fail
 refine(H_c2.out _ Aa).mono ?_
 rintro e w4 ⟨rfl,hb4⟩
 have z5:=hb4.size
 try simp at z5
 clear k1 f1 k2 f2
 refine Ad w w4 (Bc w.heap.size #[.string nm,ep,fl,la,sc,.slice ps ns cs,.slice po no co] 25<|Bc (w.heap.size+1) #[.int .i64 0,.int .i64 0,.int .i64 0,.int .i64 0,.int .i64 0,.int .i64 0,.int .u64 0,.int .i64 0,.int .u64 0] 38<|Bz) ?_
 clear b1 b2 hW
 rintro hW z6 ⟨⟨b1,yb1,k1,f1⟩,⟨b2,yb2,k2,f2⟩,-⟩
 clear hb4
 go_wp2
 refine bodyPost_ret (by simp[results,Tryz.results104,go_sem,k1,f1,k2,f2,yb1,yb2]) rfl ⟨rfl,by exact Aa⟩
theorem whole_w (nm:ByteArray) (ep fl la sc:Int) (ps po:Option Addr) (ns cs no co:Nat) (a b:Int) (n x1 x2 y1 y2 s1 s2 s3 s4 er:Int) (w:World)
  (c1:∀W,Below w.heap.size w W->Blk W w.heap.size #[.string nm,ep,fl,la,sc,.slice ps ns cs,.slice po no co] 25->Blk W (w.heap.size+1) #[a] 2->Blk W (w.heap.size+1+1) #[b] 2->Cb 104 #[.agg #[.string nm,ep,fl,la,sc,.slice ps ns cs,.slice po no co],.func (.func 105) #[] #[.pointer (some ⟨w.heap.size,0,none⟩),.pointer (some ⟨w.heap.size+1,0,none⟩),.pointer (some ⟨w.heap.size+1+1,0,none⟩)]] W (.tuple #[.agg #[n,x1,x2,y1,y2,s1,.int .u64 s2,s3,.int .u64 s4],er])):
  Cb 51 #[.agg #[.string nm,ep,fl,la,sc,.slice ps ns cs,.slice po no co],a,b] w (.tuple #[.agg #[n,x1,x2,y1,y2,s1,.int .u64 s2,s3,.int .u64 s4],er]):=by
 have H_c1:=Hd c1
 clear c1
 go_enter Tryz.func51,Tryz.ntmps51
 have hmf:∀(fn:Fn) (first cap:Array Value) (w:World),(Instr.makeFunc fn first cap).run Tryz.prog w= .ok (.func fn first cap) w:=fun _ _ _ _=>rfl
 go_upto_region 1 with(fail)
 refine Ac w (Bc w.heap.size #[.string nm,ep,fl,la,sc,.slice ps ns cs,.slice po no co] 25<|Bc (w.heap.size+1) #[a] 2<|Bc (w.heap.size+1+1) #[b] 2<|Bc (w.heap.size+1+1+1) #[.int .i64 0,.int .i64 0,.int .i64 0,.int .i64 0,.int .i64 0,.int .i64 0,.int .u64 0,.int .i64 0,.int .u64 0] 38<|Bz) ?_
 rintro W1 hW z2 ⟨⟨b1,yb1,k1,f1⟩,⟨b2,yb2,k2,f2⟩,⟨b3,yb3,k3,f3⟩,⟨b4,yb4,k4,f4⟩,-⟩
 go_wp2_with fail
 refine(H_c1.out W1 hW b1 b2 b3).mono ?_
 rintro e w3 ⟨rfl,hb3⟩
 have z4:=hb3.size
 try simp at z4
 clear k1 f1 k2 f2 k3 f3 k4 f4
 refine Ad w w3 (Bc w.heap.size #[.string nm,ep,fl,la,sc,.slice ps ns cs,.slice po no co] 25<|Bc (w.heap.size+1) #[a] 2<|Bc (w.heap.size+1+1) #[b] 2<|Bc (w.heap.size+1+1+1) #[.int .i64 0,.int .i64 0,.int .i64 0,.int .i64 0,.int .i64 0,.int .i64 0,.int .u64 0,.int .i64 0,.int .u64 0] 38<|Bz) ?_
 clear b1 b2 b3 b4 hW
 rintro hW z5 ⟨⟨b1,yb1,k1,f1⟩,⟨b2,yb2,k2,f2⟩,⟨b3,yb3,k3,f3⟩,⟨b4,yb4,k4,f4⟩,-⟩
 clear hb3
 go_wp2
 refine bodyPost_ret (by simp[results,Tryz.results51,go_sem,k1,f1,k2,f2,k3,f3,k4,f4,yb1,yb2,yb3,yb4]) rfl ⟨rfl,by exact Aa⟩
theorem Yt (nm:ByteArray) (ep fl la sc:Int) (ps po:Option Addr) (ns cs no co:Nat) (a b:Int) (n x1 x2 y1 y2 s1 s2 s3 s4 er:Int) (w:World)
  (c1:∀W,Below w.heap.size w W->Cb 51 #[.agg #[.string nm,ep,fl,la,sc,.slice ps ns cs,.slice po no co],a,b] W (.tuple #[.agg #[n,x1,x2,y1,y2,s1,.int .u64 s2,s3,.int .u64 s4],er])):
  Cb 17 #[.agg #[.string nm,ep,fl,la,sc,.slice ps ns cs,.slice po no co],a,b] w (.tuple #[.agg #[x1,x2],er]):=by
 have H_c1:=Hd c1
 clear c1
 go_enter Tryz.func17,Tryz.ntmps17
 go_wp2_with fail
 refine(H_c1.out _ Aa).mono ?_
 rintro e w1 ⟨rfl,hb1⟩
 have z2:=hb1.size
 try simp at z2
 refine Ad w w1 (Bc w.heap.size #[.string nm,ep,fl,la,sc,.slice ps ns cs,.slice po no co] 25<|Bc (w.heap.size+1) #[.int .i64 0,.int .i64 0] 33<|Bz) ?_
 rintro hW z3 ⟨⟨b1,yb1,k1,f1⟩,⟨b2,yb2,k2,f2⟩,-⟩
 clear hb1
 go_wp2
 refine bodyPost_ret (by simp[results,Tryz.results17,go_sem,k1,f1,k2,f2,yb1,yb2]) rfl ⟨rfl,by exact Aa⟩
theorem anMost_w (nm:ByteArray) (ep fl la sc:Int) (ps po:Option Addr) (ns cs no co:Nat) (a b:Int) (n x1 x2 y1 y2 s1 s2 s3 s4 er:Int) (w:World)
  (c1:∀W,Below w.heap.size w W->Cb 51 #[.agg #[.string nm,ep,fl,la,sc,.slice ps ns cs,.slice po no co],a,b] W (.tuple #[.agg #[n,x1,x2,y1,y2,s1,.int .u64 s2,s3,.int .u64 s4],er])):
  Cb 18 #[.agg #[.string nm,ep,fl,la,sc,.slice ps ns cs,.slice po no co],a,b] w (.tuple #[.agg #[y1,y2],er]):=by
 have H_c1:=Hd c1
 clear c1
 go_enter Tryz.func18,Tryz.ntmps18
 go_wp2_with fail
 refine(H_c1.out _ Aa).mono ?_
 rintro e w1 ⟨rfl,hb1⟩
 have z2:=hb1.size
 try simp at z2
 refine Ad w w1 (Bc w.heap.size #[.string nm,ep,fl,la,sc,.slice ps ns cs,.slice po no co] 25<|Bc (w.heap.size+1) #[.int .i64 0,.int .i64 0] 33<|Bz) ?_
 rintro hW z3 ⟨⟨b1,yb1,k1,f1⟩,⟨b2,yb2,k2,f2⟩,-⟩
 clear hb1
 go_wp2
 refine bodyPost_ret (by simp[results,Tryz.results18,go_sem,k1,f1,k2,f2,yb1,yb2]) rfl ⟨rfl,by exact Aa⟩
theorem Yv (nm:ByteArray) (ep fl la sc:Int) (ps po:Option Addr) (ns cs no co:Nat) (a b:Int) (n x1 x2 y1 y2 s1 s2 s3 s4 er:Int) (w:World) (her:er=9)
  (c1:∀W,Below w.heap.size w W->Cb 51 #[.agg #[.string nm,ep,fl,la,sc,.slice ps ns cs,.slice po no co],a,b] W (.tuple #[.agg #[n,x1,x2,y1,y2,s1,.int .u64 s2,s3,.int .u64 s4],er])):
  Cb 13 #[.agg #[.string nm,ep,fl,la,sc,.slice ps ns cs,.slice po no co],a,b] w (.tuple #[.int .i64 0,.int .i64 0]):=by
 subst her
 have H_c1:=Hd c1
 clear c1
 go_enter Tryz.func13,Tryz.ntmps13
 go_wp2_with fail
 refine(H_c1.out _ Aa).mono ?_
 rintro e w1 ⟨rfl,hb1⟩
 have z2:=hb1.size
 try simp at z2
 refine Ad w w1 (Bc w.heap.size #[.string nm,ep,fl,la,sc,.slice ps ns cs,.slice po no co] 25<|Bz) ?_
 rintro hW z3 ⟨⟨b1,yb1,k1,f1⟩,-⟩
 clear hb1
 go_wp2
 refine bodyPost_ret (by simp[results,Tryz.results13,go_sem,k1,f1,yb1]) rfl ⟨rfl,by exact Aa⟩
theorem Yu (nm:ByteArray) (ep fl la sc:Int) (ps po:Option Addr) (ns cs no co:Nat) (a b:Int) (n x1 x2 y1 y2 s1 s2 s3 s4 er:Int) (w:World) (her:er≠9)
  (c1:∀W,Below w.heap.size w W->Cb 51 #[.agg #[.string nm,ep,fl,la,sc,.slice ps ns cs,.slice po no co],a,b] W (.tuple #[.agg #[n,x1,x2,y1,y2,s1,.int .u64 s2,s3,.int .u64 s4],er])):
  Cb 13 #[.agg #[.string nm,ep,fl,la,sc,.slice ps ns cs,.slice po no co],a,b] w (.tuple #[n,er]):=by
 have H_c1:=Hd c1
 clear c1
 go_enter Tryz.func13,Tryz.ntmps13
 go_wp2_with fail
 refine(H_c1.out _ Aa).mono ?_
 rintro e w1 ⟨rfl,hb1⟩
 have z2:=hb1.size
 try simp at z2
 refine Ad w w1 (Bc w.heap.size #[.string nm,ep,fl,la,sc,.slice ps ns cs,.slice po no co] 25<|Bz) ?_
 rintro hW z3 ⟨⟨b1,yb1,k1,f1⟩,-⟩
 clear hb1
 go_wp2
 refine bodyPost_ret (by simp[results,Tryz.results13,go_sem,k1,f1,yb1]) rfl ⟨rfl,by exact Aa⟩
theorem anSum_0 (nm:ByteArray) (ep fl la sc:Int) (ps po:Option Addr) (ns cs no co:Nat) (a b:Int) (n x1 x2 y1 y2 s1 s2 s3 s4 er:Int) (i1 i2 e1 e2:Int) (w:World) (her:er≠0)
  (c1:∀W,Below w.heap.size w W->Cb 51 #[.agg #[.string nm,ep,fl,la,sc,.slice ps ns cs,.slice po no co],a,b] W (.tuple #[.agg #[n,x1,x2,y1,y2,s1,.int .u64 s2,s3,.int .u64 s4],er]))
   :
  Cb 19 #[.agg #[.string nm,ep,fl,la,sc,.slice ps ns cs,.slice po no co],a,b] w (.tuple #[.agg #[.int .i64 0,.int .i64 0],er]):=by
 have H_c1:=Hd c1
 clear c1
 go_enter Tryz.func19,Tryz.ntmps19
 go_wp2_with fail
 refine(H_c1.out _ Aa).mono ?_
 rintro e w1 ⟨rfl,hb1⟩
 have z2:=hb1.size
 try simp at z2
 refine Ad w w1 (Bc w.heap.size #[.string nm,ep,fl,la,sc,.slice ps ns cs,.slice po no co] 25<|Bc (w.heap.size+1) #[.int .i64 0,.int .i64 0] 33<|Bz) ?_
 rintro hW z3 ⟨⟨b1,yb1,k1,f1⟩,⟨b2,yb2,k2,f2⟩,-⟩
 clear hb1
 go_wp2
 refine bodyPost_ret (by simp[results,Tryz.results19,go_sem,k1,f1,k2,f2,yb1,yb2]) rfl ⟨rfl,by exact Aa⟩
theorem anSum_1 (nm:ByteArray) (ep fl la sc:Int) (ps po:Option Addr) (ns cs no co:Nat) (a b:Int) (n x1 x2 y1 y2 s1 s2 s3 s4 er:Int) (i1 i2 e1 e2:Int) (w:World) (her:er=0)
  (c1:∀W,Below w.heap.size w W->Cb 51 #[.agg #[.string nm,ep,fl,la,sc,.slice ps ns cs,.slice po no co],a,b] W (.tuple #[.agg #[n,x1,x2,y1,y2,s1,.int .u64 s2,s3,.int .u64 s4],er]))
  (c2:∀W,Below w.heap.size w W->Cb 60 #[.agg #[s1,.int .u64 s2]] W (.tuple #[i1,.int .i64 0]))
  (c3:∀W,Below w.heap.size w W->Cb 60 #[.agg #[s3,.int .u64 s4]] W (.tuple #[i2,.int .i64 0])):
  Cb 19 #[.agg #[.string nm,ep,fl,la,sc,.slice ps ns cs,.slice po no co],a,b] w (.tuple #[.agg #[i1,i2],.int .i64 0]):=by
 subst her
 have H_c1:=Hd c1
 clear c1
 have H_c2:=Hd c2
 clear c2
 have H_c3:=Hd c3
 clear c3
 go_enter Tryz.func19,Tryz.ntmps19
 go_wp2_with fail
 refine(H_c1.out _ Aa).mono ?_
 rintro e w1 ⟨rfl,hb1⟩
 have z2:=hb1.size
 try simp at z2
 refine Ad w w1 (Bc w.heap.size #[.string nm,ep,fl,la,sc,.slice ps ns cs,.slice po no co] 25<|Bc (w.heap.size+1) #[.int .i64 0,.int .i64 0] 33<|Bz) ?_
 rintro hW z3 ⟨⟨b1,yb1,k1,f1⟩,⟨b2,yb2,k2,f2⟩,-⟩
 clear hb1
 go_wp2_with fail
 refine(H_c2.out _ Aa).mono ?_
 rintro e w4 ⟨rfl,hb4⟩
 have z5:=hb4.size
 try simp at z5
 clear k1 f1 k2 f2
 refine Ad w w4 (Bc w.heap.size #[.string nm,ep,fl,la,sc,.slice ps ns cs,.slice po no co] 25<|Bc (w.heap.size+1) #[.int .i64 0,.int .i64 0] 33<|Bc w1.heap.size #[n,x1,x2,y1,y2,s1,.int .u64 s2,s3,.int .u64 s4] 38<|Bz) ?_
 clear b1 b2 hW
 rintro hW z6 ⟨⟨b1,yb1,k1,f1⟩,⟨b2,yb2,k2,f2⟩,⟨b3,yb3,k3,f3⟩,-⟩
 clear hb4
 go_wp2_with fail
 refine(H_c3.out _ Aa).mono ?_
 rintro e w7 ⟨rfl,hb7⟩
 have z8:=hb7.size
 try simp at z8
 clear k1 f1 k2 f2 k3 f3
 refine Ad w w7 (Bc w.heap.size #[.string nm,ep,fl,la,sc,.slice ps ns cs,.slice po no co] 25<|Bc (w.heap.size+1) #[.int .i64 0,.int .i64 0] 33<|Bc w1.heap.size #[n,x1,x2,y1,y2,s1,.int .u64 s2,s3,.int .u64 s4] 38<|Bz) ?_
 clear b1 b2 b3 hW
 rintro hW z9 ⟨⟨b1,yb1,k1,f1⟩,⟨b2,yb2,k2,f2⟩,⟨b3,yb3,k3,f3⟩,-⟩
 clear hb7
 go_wp2
 refine bodyPost_ret (by simp[results,Tryz.results19,go_sem,k1,f1,k2,f2,k3,f3,yb1,yb2,yb3]) rfl ⟨rfl,by exact Aa⟩
theorem anSum_2 (nm:ByteArray) (ep fl la sc:Int) (ps po:Option Addr) (ns cs no co:Nat) (a b:Int) (n x1 x2 y1 y2 s1 s2 s3 s4 er:Int) (i1 i2 e1 e2:Int) (w:World) (her:er=0) (h1:e1≠0)
  (c1:∀W,Below w.heap.size w W->Cb 51 #[.agg #[.string nm,ep,fl,la,sc,.slice ps ns cs,.slice po no co],a,b] W (.tuple #[.agg #[n,x1,x2,y1,y2,s1,.int .u64 s2,s3,.int .u64 s4],er]))
  (c2:∀W,Below w.heap.size w W->Cb 60 #[.agg #[s1,.int .u64 s2]] W (.tuple #[i1,e1]))
  (c3:∀W,Below w.heap.size w W->Cb 60 #[.agg #[s3,.int .u64 s4]] W (.tuple #[i2,e2])):
  Cb 19 #[.agg #[.string nm,ep,fl,la,sc,.slice ps ns cs,.slice po no co],a,b] w (.tuple #[.agg #[.int .i64 0,.int .i64 0],.int .i64 5]):=by
 subst her
 have H_c1:=Hd c1
 clear c1
 have H_c2:=Hd c2
 clear c2
 have H_c3:=Hd c3
 clear c3
 go_enter Tryz.func19,Tryz.ntmps19
 go_wp2_with fail
 refine(H_c1.out _ Aa).mono ?_
 rintro e w1 ⟨rfl,hb1⟩
 have z2:=hb1.size
 try simp at z2
 refine Ad w w1 (Bc w.heap.size #[.string nm,ep,fl,la,sc,.slice ps ns cs,.slice po no co] 25<|Bc (w.heap.size+1) #[.int .i64 0,.int .i64 0] 33<|Bz) ?_
 rintro hW z3 ⟨⟨b1,yb1,k1,f1⟩,⟨b2,yb2,k2,f2⟩,-⟩
 clear hb1
 go_wp2_with fail
 refine(H_c2.out _ Aa).mono ?_
 rintro e w4 ⟨rfl,hb4⟩
 have z5:=hb4.size
 try simp at z5
 clear k1 f1 k2 f2
 refine Ad w w4 (Bc w.heap.size #[.string nm,ep,fl,la,sc,.slice ps ns cs,.slice po no co] 25<|Bc (w.heap.size+1) #[.int .i64 0,.int .i64 0] 33<|Bc w1.heap.size #[n,x1,x2,y1,y2,s1,.int .u64 s2,s3,.int .u64 s4] 38<|Bz) ?_
 clear b1 b2 hW
 rintro hW z6 ⟨⟨b1,yb1,k1,f1⟩,⟨b2,yb2,k2,f2⟩,⟨b3,yb3,k3,f3⟩,-⟩
 clear hb4
 go_wp2_with fail
 refine(H_c3.out _ Aa).mono ?_
 rintro e w7 ⟨rfl,hb7⟩
 have z8:=hb7.size
 try simp at z8
 clear k1 f1 k2 f2 k3 f3
 refine Ad w w7 (Bc w.heap.size #[.string nm,ep,fl,la,sc,.slice ps ns cs,.slice po no co] 25<|Bc (w.heap.size+1) #[.int .i64 0,.int .i64 0] 33<|Bc w1.heap.size #[n,x1,x2,y1,y2,s1,.int .u64 s2,s3,.int .u64 s4] 38<|Bz) ?_
 clear b1 b2 b3 hW
 rintro hW z9 ⟨⟨b1,yb1,k1,f1⟩,⟨b2,yb2,k2,f2⟩,⟨b3,yb3,k3,f3⟩,-⟩
 clear hb7
 go_wp2
 refine bodyPost_ret (by simp[results,Tryz.results19,go_sem,k1,f1,k2,f2,k3,f3,yb1,yb2,yb3]) rfl ⟨rfl,by exact Aa⟩
theorem anSum_3 (nm:ByteArray) (ep fl la sc:Int) (ps po:Option Addr) (ns cs no co:Nat) (a b:Int) (n x1 x2 y1 y2 s1 s2 s3 s4 er:Int) (i1 i2 e1 e2:Int) (w:World) (her:er=0) (h2:e2≠0)
  (c1:∀W,Below w.heap.size w W->Cb 51 #[.agg #[.string nm,ep,fl,la,sc,.slice ps ns cs,.slice po no co],a,b] W (.tuple #[.agg #[n,x1,x2,y1,y2,s1,.int .u64 s2,s3,.int .u64 s4],er]))
  (c2:∀W,Below w.heap.size w W->Cb 60 #[.agg #[s1,.int .u64 s2]] W (.tuple #[i1,.int .i64 0]))
  (c3:∀W,Below w.heap.size w W->Cb 60 #[.agg #[s3,.int .u64 s4]] W (.tuple #[i2,e2])):
  Cb 19 #[.agg #[.string nm,ep,fl,la,sc,.slice ps ns cs,.slice po no co],a,b] w (.tuple #[.agg #[.int .i64 0,.int .i64 0],.int .i64 5]):=by
 subst her
 have H_c1:=Hd c1
 clear c1
 have H_c2:=Hd c2
 clear c2
 have H_c3:=Hd c3
 clear c3
 go_enter Tryz.func19,Tryz.ntmps19
 go_wp2_with fail
 refine(H_c1.out _ Aa).mono ?_
 rintro e w1 ⟨rfl,hb1⟩
 have z2:=hb1.size
 try simp at z2
 refine Ad w w1 (Bc w.heap.size #[.string nm,ep,fl,la,sc,.slice ps ns cs,.slice po no co] 25<|Bc (w.heap.size+1) #[.int .i64 0,.int .i64 0] 33<|Bz) ?_
 rintro hW z3 ⟨⟨b1,yb1,k1,f1⟩,⟨b2,yb2,k2,f2⟩,-⟩
 clear hb1
 go_wp2_with fail
 refine(H_c2.out _ Aa).mono ?_
 rintro e w4 ⟨rfl,hb4⟩
 have z5:=hb4.size
 try simp at z5
 clear k1 f1 k2 f2
 refine Ad w w4 (Bc w.heap.size #[.string nm,ep,fl,la,sc,.slice ps ns cs,.slice po no co] 25<|Bc (w.heap.size+1) #[.int .i64 0,.int .i64 0] 33<|Bc w1.heap.size #[n,x1,x2,y1,y2,s1,.int .u64 s2,s3,.int .u64 s4] 38<|Bz) ?_
 clear b1 b2 hW
 rintro hW z6 ⟨⟨b1,yb1,k1,f1⟩,⟨b2,yb2,k2,f2⟩,⟨b3,yb3,k3,f3⟩,-⟩
 clear hb4
 go_wp2_with fail
 refine(H_c3.out _ Aa).mono ?_
 rintro e w7 ⟨rfl,hb7⟩
 have z8:=hb7.size
 try simp at z8
 clear k1 f1 k2 f2 k3 f3
 refine Ad w w7 (Bc w.heap.size #[.string nm,ep,fl,la,sc,.slice ps ns cs,.slice po no co] 25<|Bc (w.heap.size+1) #[.int .i64 0,.int .i64 0] 33<|Bc w1.heap.size #[n,x1,x2,y1,y2,s1,.int .u64 s2,s3,.int .u64 s4] 38<|Bz) ?_
 clear b1 b2 b3 hW
 rintro hW z9 ⟨⟨b1,yb1,k1,f1⟩,⟨b2,yb2,k2,f2⟩,⟨b3,yb3,k3,f3⟩,-⟩
 clear hb7
 go_wp2
 refine bodyPost_ret (by simp[results,Tryz.results19,go_sem,k1,f1,k2,f2,k3,f3,yb1,yb2,yb3]) rfl ⟨rfl,by exact Aa⟩
theorem anMean_0 (nm:ByteArray) (ep fl la sc:Int) (ps po:Option Addr) (ns cs no co:Nat) (a b:Int) (n x1 x2 y1 y2 s1 s2 s3 s4 er:Int) (w:World) (her:er≠0)
  (c1:∀W,Below w.heap.size w W->Cb 51 #[.agg #[.string nm,ep,fl,la,sc,.slice ps ns cs,.slice po no co],a,b] W (.tuple #[.agg #[n,x1,x2,y1,y2,s1,.int .u64 s2,s3,.int .u64 s4],er])):
  Cb 20 #[.agg #[.string nm,ep,fl,la,sc,.slice ps ns cs,.slice po no co],a,b] w (.tuple #[.agg #[.int .i64 0,.int .i64 0,.int .i64 0,.int .i64 0,.int .i64 0],er]):=by
 have H_c1:=Hd c1
 clear c1
 go_enter Tryz.func20,Tryz.ntmps20
 go_wp2_with fail
 refine(H_c1.out _ Aa).mono ?_
 rintro e w1 ⟨rfl,hb1⟩
 have z2:=hb1.size
 try simp at z2
 refine Ad w w1 (Bc w.heap.size #[.string nm,ep,fl,la,sc,.slice ps ns cs,.slice po no co] 25<|Bc (w.heap.size+1) #[.int .i64 0,.int .i64 0,.int .i64 0,.int .i64 0,.int .i64 0] 49<|Bz) ?_
 rintro hW z3 ⟨⟨b1,yb1,k1,f1⟩,⟨b2,yb2,k2,f2⟩,-⟩
 clear hb1
 go_wp2
 refine bodyPost_ret (by simp[results,Tryz.results20,go_sem,k1,f1,k2,f2,yb1,yb2]) rfl ⟨rfl,by exact Aa⟩
def V4 (w:World) (n x1 x2 y1 y2 s1 s2 s3 s4 m1 r1 m2 r2:Int) (g:Nat) (a':Act) (W:World):Prop:=
 Below w.heap.size w W/\Blk W (w.heap.size+1) #[.int .i64 0,.int .i64 0,.int .i64 0,.int .i64 0,.int .i64 0] 49/\Blk W g #[n,x1,x2,y1,y2,s1,.int .u64 s2,s3,.int .u64 s4] 38/\∃i:Nat,Blk W (g+1) #[.int .i64 (Qf i m1),.int .i64 (Qf i r1),.int .i64 (Qe i m2),.int .i64 (Qe i r2)] 119/\(∃u:Nat->Value,a'= {tmps:= #[u 0,u 1,u 2,u 3,u 4,u 5,.pointer (some ⟨(w.heap.size+1),0,none⟩),u 7,.pointer (some ⟨g,0,none⟩),.int .i64 0,.pointer (some ⟨(g+1),0,none⟩),u 11,u 12,u 13,u 14,u 15,u 16,u 17,u 18,u 19,u 20,u 21,u 22,u 23,u 24,u 25,u 26,u 27,u 28,u 29,u 30,.agg #[s1,.int .u64 s2,s3,.int .u64 s4],.int .i64 (i:Int),u 33,u 34,u 35,u 36,u 37,u 38,u 39,u 40,u 41,u 42,u 43,u 44,u 45,u 46,u 47,u 48,u 49,u 50,u 51,u 52,u 53,u 54,u 55,u 56,u 57,u 58,u 59,u 60,u 61,u 62,u 63],defers:= []})/\i<=2
theorem anMean_1 (nm:ByteArray) (ep fl la sc:Int) (ps po:Option Addr) (ns cs no co:Nat) (a b:Int) (n x1 x2 y1 y2 s1 s2 s3 s4 q1 q2 q3 q4 r1 r2 m1 m2 e1 e2:Int) (w:World)
  (c1:∀W,Below w.heap.size w W->Cb 51 #[.agg #[.string nm,ep,fl,la,sc,.slice ps ns cs,.slice po no co],a,b] W (.tuple #[.agg #[n,x1,x2,y1,y2,s1,.int .u64 s2,s3,.int .u64 s4],.int .i64 0]))
  (c2:∀W,Cb 61 #[.agg #[s1,.int .u64 s2],n] W (.tuple #[.agg #[q1,.int .u64 q2],r1,.int .i64 0]))
  (c3:∀W,Cb 61 #[.agg #[s3,.int .u64 s4],n] W (.tuple #[.agg #[q3,.int .u64 q4],r2,.int .i64 0]))
  (c4:∀W,Cb 60 #[.agg #[q1,.int .u64 q2]] W (.tuple #[m1,e1]))
  (c5:∀W,Cb 60 #[.agg #[q3,.int .u64 q4]] W (.tuple #[m2,e2])):
  Cb 20 #[.agg #[.string nm,ep,fl,la,sc,.slice ps ns cs,.slice po no co],a,b] w (.tuple #[.agg #[n,m1,r1,m2,r2],.int .i64 0]):=by
 replace c2:=Hd c2
 replace c3:=Hd c3
 replace c4:=Hd c4
 replace c5:=Hd c5
 have H_c1:=Hd c1
 clear c1
 go_enter Tryz.func20,Tryz.ntmps20
 go_wp2_with fail
 refine(H_c1.out _ Aa).mono ?_
 rintro e w1 ⟨rfl,hb1⟩
 have z2:=hb1.size
 try simp at z2
 refine Ad w w1 (Bc w.heap.size #[.string nm,ep,fl,la,sc,.slice ps ns cs,.slice po no co] 25<|Bc (w.heap.size+1) #[.int .i64 0,.int .i64 0,.int .i64 0,.int .i64 0,.int .i64 0] 49<|Bz) ?_
 rintro hW z3 ⟨⟨b1,yb1,k1,f1⟩,⟨b2,yb2,k2,f2⟩,-⟩
 clear hb1
 clear H_c1
 go_upto_region 5 with(fail)
 clear k1 f1 k2 f2
 refine Ac w (Bc (w.heap.size+1) #[.int .i64 0,.int .i64 0,.int .i64 0,.int .i64 0,.int .i64 0] 49<|Bc w1.heap.size #[n,x1,x2,y1,y2,s1,.int .u64 s2,s3,.int .u64 s4] 38<|Bc (w1.heap.size+1) #[.int .i64 0,.int .i64 0,.int .i64 0,.int .i64 0] 119<|Bz) ?_
 clear b1 b2 hW
 rintro W4 hW z5 ⟨⟨b1,yb1,k1,f1⟩,⟨b2,yb2,k2,f2⟩,⟨b3,yb3,k3,f3⟩,-⟩
 go_wp2
 have hg2:w.heap.size+1<w1.heap.size:=by omega
 obtain⟨g,hg⟩:∃g,w1.heap.size=g:=⟨_,rfl⟩
 rw[hg] at hg2 b2 b3⊢
 refine wp_loop (V4 w n x1 x2 y1 y2 s1 s2 s3 s4 m1 r1 m2 r2 g) (fun a' _=>2-(Aq (a'.tmps.getD 32 undef)).toNat) ?_ ?_
 ·unfold V4
  exact⟨hW,b1,b2,0,b3,Ag rfl,by omega⟩
 clear hg hW b1 b2 b3 k1 f1 k2 f2 k3 f3
 rintro a' W ⟨hW0,b1,b2,i,b3,⟨u,rfl⟩,hi'⟩
 have hz:=hW0.size
 have zb1:=b1.lt
 have zb2:=b2.lt
 have zb3:=b3.lt
 have hi3:i=0∨i=1∨i=2:=by omega
 rcases hi3 with rfl|rfl|rfl
 ·replace b3:Blk W (g+1) #[.int .i64 0,.int .i64 0,.int .i64 0,.int .i64 0] 119:=by simpa [Qf,Qe] using b3
  have k1:=b1.cell
  have f1:=b1.frozen
  have k2:=b2.cell
  have f2:=b2.frozen
  have k3:=b3.cell
  have f3:=b3.frozen
  have hix:∀W:World,(Instr.index 120 (.agg #[s1,.int .u64 s2,s3,.int .u64 s4]) (.int .i64 0)).run Tryz.prog W= .ok (.agg #[s1,.int .u64 s2]) W:=fun _=>rfl
  go_wp2_with fail
  refine(c2.out _).mono ?_
  rintro e w21 ⟨rfl,hb21⟩
  have z22:=hb21.size
  try simp at z22
  clear k1 f1 k2 f2 k3 f3
  refine Ad W w21 (Bc (w.heap.size+1) #[.int .i64 0,.int .i64 0,.int .i64 0,.int .i64 0,.int .i64 0] 49<|Bc g #[n,x1,x2,y1,y2,s1,.int .u64 s2,s3,.int .u64 s4] 38<|Bc (g+1) #[.int .i64 0,.int .i64 0,.int .i64 0,.int .i64 0] 119<|Bc W.heap.size #[s1,.int .u64 s2] 36<|Bz) ?_
  clear b1 b2 b3
  rintro hW z23 ⟨⟨b1,yb1,k1,f1⟩,⟨b2,yb2,k2,f2⟩,⟨b3,yb3,k3,f3⟩,⟨b4,yb4,k4,f4⟩,-⟩
  clear hb21
  go_wp2_with fail
  refine(c4.out _).mono ?_
  rintro e w24 ⟨rfl,hb24⟩
  have z25:=hb24.size
  try simp at z25
  clear k1 f1 k2 f2 k3 f3 k4 f4
  refine Ad W w24 (Bc (w.heap.size+1) #[.int .i64 0,.int .i64 0,.int .i64 0,.int .i64 0,.int .i64 0] 49<|Bc g #[n,x1,x2,y1,y2,s1,.int .u64 s2,s3,.int .u64 s4] 38<|Bc (g+1) #[.int .i64 0,.int .i64 0,.int .i64 0,.int .i64 0] 119<|Bc W.heap.size #[s1,.int .u64 s2] 36<|Bc w21.heap.size #[q1,.int .u64 q2] 36<|Bz) ?_
  clear b1 b2 b3 b4 hW
  rintro hW z26 ⟨⟨b1,yb1,k1,f1⟩,⟨b2,yb2,k2,f2⟩,⟨b3,yb3,k3,f3⟩,⟨b4,yb4,k4,f4⟩,⟨b5,yb5,k5,f5⟩,-⟩
  clear hb24
  have hW9:=hW0.trans (hW.mono hz)
  clear hW
  go_wp2
  refine⟨?_,by simp[Aq]⟩
  unfold V4
  exact⟨Aa,Ab,Ab,1,(Ab:Blk _ (g+1) #[m1,r1,.int .i64 0,.int .i64 0] 119),Ag rfl,by omega⟩
 ·replace b3:Blk W (g+1) #[m1,r1,.int .i64 0,.int .i64 0] 119:=by simpa [Qf,Qe] using b3
  have k1:=b1.cell
  have f1:=b1.frozen
  have k2:=b2.cell
  have f2:=b2.frozen
  have k3:=b3.cell
  have f3:=b3.frozen
  have hix:∀W:World,(Instr.index 120 (.agg #[s1,.int .u64 s2,s3,.int .u64 s4]) (.int .i64 1)).run Tryz.prog W= .ok (.agg #[s3,.int .u64 s4]) W:=fun _=>rfl
  go_wp2_with fail
  refine(c3.out _).mono ?_
  rintro e w21 ⟨rfl,hb21⟩
  have z22:=hb21.size
  try simp at z22
  clear k1 f1 k2 f2 k3 f3
  refine Ad W w21 (Bc (w.heap.size+1) #[.int .i64 0,.int .i64 0,.int .i64 0,.int .i64 0,.int .i64 0] 49<|Bc g #[n,x1,x2,y1,y2,s1,.int .u64 s2,s3,.int .u64 s4] 38<|Bc (g+1) #[m1,r1,.int .i64 0,.int .i64 0] 119<|Bc W.heap.size #[s3,.int .u64 s4] 36<|Bz) ?_
  clear b1 b2 b3
  rintro hW z23 ⟨⟨b1,yb1,k1,f1⟩,⟨b2,yb2,k2,f2⟩,⟨b3,yb3,k3,f3⟩,⟨b4,yb4,k4,f4⟩,-⟩
  clear hb21
  go_wp2_with fail
  refine(c5.out _).mono ?_
  rintro e w24 ⟨rfl,hb24⟩
  have z25:=hb24.size
  try simp at z25
  clear k1 f1 k2 f2 k3 f3 k4 f4
  refine Ad W w24 (Bc (w.heap.size+1) #[.int .i64 0,.int .i64 0,.int .i64 0,.int .i64 0,.int .i64 0] 49<|Bc g #[n,x1,x2,y1,y2,s1,.int .u64 s2,s3,.int .u64 s4] 38<|Bc (g+1) #[m1,r1,.int .i64 0,.int .i64 0] 119<|Bc W.heap.size #[s3,.int .u64 s4] 36<|Bc w21.heap.size #[q3,.int .u64 q4] 36<|Bz) ?_
  clear b1 b2 b3 b4 hW
  rintro hW z26 ⟨⟨b1,yb1,k1,f1⟩,⟨b2,yb2,k2,f2⟩,⟨b3,yb3,k3,f3⟩,⟨b4,yb4,k4,f4⟩,⟨b5,yb5,k5,f5⟩,-⟩
  clear hb24
  have hW9:=hW0.trans (hW.mono hz)
  clear hW
  go_wp2
  refine⟨?_,by simp[Aq]⟩
  unfold V4
  exact⟨Aa,Ab,Ab,2,(Ab:Blk _ (g+1) #[m1,r1,m2,r2] 119),Ag rfl,by omega⟩
 ·replace b3:Blk W (g+1) #[m1,r1,m2,r2] 119:=by simpa [Qf,Qe] using b3
  have k1:=b1.cell
  have f1:=b1.frozen
  have k2:=b2.cell
  have f2:=b2.frozen
  have k3:=b3.cell
  have f3:=b3.frozen
  have hW:=hW0
  go_wp2
  refine bodyPost_ret (by simp[results,Tryz.results20,go_sem,k1,f1,k2,f2,k3,f3,yb1,yb2,yb3]) rfl ⟨rfl,by exact Aa⟩
theorem El {s:A3} (h:Bv s=true):∀x,x∈s.segs->Cw x=true:=by
 unfold Bv at h
 simp only[Bool.and_eq_true] at h
 exact Nx h.2.1
theorem Q6 {s:A3} (h:Bv s=true):∀x,x∈s.opn-> -2305844108725321728<=x.2/\x.2<=2305844108725321728:=by
 intro x hx
 unfold Bv at h
 simp only[Bool.and_eq_true] at h
 have:=List.all_eq_true.1 h.2.2.2.2.1 x hx
 unfold L8 btw at this
 simp only[Bool.and_eq_true,decide_eq_true_eq] at this
 omega
theorem Hv (s:A3) (a b:Int):Dx s a b= []↔Mh s a b= []:=by unfold Dx;simp
theorem Ki {s:A3} {a b:Int} (h:Cg s a b≠0):At s a b= []:=by
 unfold Cg at h
 unfold At
 split
 ·rename_i hc
  rw[if_pos hc] at h
  split at h
  ·rename_i he;exact(Hv s a b).2 he
  ·exact absurd rfl h
 ·rfl
def TellOk (l:List (Int×Int)):Prop:=(∀x,x∈l-> -2305844108725321728<=x.1/\x.1<=2305844108725321728/\0<=x.2/\x.2<=1099511627776)/\l.length<=100000
theorem P2 (s:A3) (h1:s.segs.length<=100) (h2:s.opn.length<=100) (a b:Int):TellOk (At s a b):=by
 unfold At
 split
 ·rename_i hc
  have hp:=Zr (El hc) (Q6 hc) a b
  have hf:=Vy h1 h2 a b
  unfold Dx
  rw[<-Se]
  refine⟨fun y hy=>by obtain⟨g,hg,hyg⟩:=List.mem_flatMap.1 hy;exact Pe (hp g hg) y hyg,?_⟩
  have:=Gt pairs 256 (Kc s a b) fun y hy=>by unfold pairs;rw[List.length_map];exact(hp y hy).2.1
  omega
 ·exact⟨fun x hx=>(by cases hx),by simp⟩
theorem O6 {l:List (Int×Int)} (h:TellOk l):(-(2305847407260205056*l.length)<=Ak (loL l)/\Ak (loL l)<=2305847407260205056*l.length)/\(-(2305847407260205056*l.length)<=Ak (hiL l)/\Ak (hiL l)<=2305847407260205056*l.length)/\l.length<=100000:=by
 have hls:=F8 (l:=loL l) (B:=2305847407260205056) (fun v hv=>by
  unfold loL at hv
  obtain⟨x,hx,rfl⟩:=List.mem_map.1 hv
  have:=h.1 x hx
  omega)
 have hhs:=F8 (l:=hiL l) (B:=2305847407260205056) (fun v hv=>by
  unfold hiL at hv
  obtain⟨x,hx,rfl⟩:=List.mem_map.1 hv
  have:=h.1 x hx
  omega)
 have el:(loL l).length=l.length:=by unfold loL;simp
 have eh:(hiL l).length=l.length:=by unfold hiL;simp
 rw[el] at hls
 rw[eh] at hhs
 exact⟨hls,hhs,h.2⟩
def sumV (l:List (Int×Int)):Array Value:=if inI (Ak (loL l))&&inI (Ak (hiL l)) then #[.int .i64 (Ak (loL l)),.int .i64 (Ak (hiL l))] else #[.int .i64 0,.int .i64 0]
def R2 (l:List (Int×Int)) (e:Int):Int:=if e=0 then (if inI (Ak (loL l))&&inI (Ak (hiL l)) then 0 else 5) else e
def Sk (l:List (Int×Int)):Array Value:= #[.int .i64 l.length,.int .i64 (Ak (loL l)/l.length),.int .i64 (Ak (loL l)%l.length),.int .i64 (Ak (hiL l)/l.length),.int .i64 (Ak (hiL l)%l.length)]
def minA (l:List (Int×Int)):Array Value:= #[.int .i64 (Aw (loL l)),.int .i64 (Aw (hiL l))]
def maxA (l:List (Int×Int)):Array Value:= #[.int .i64 (Ay (loL l)),.int .i64 (Ay (hiL l))]
theorem Gw (s:A3) (ps po:Option Addr) (cs co:Nat) (a b:Int) (w:World) (hin:A9 w s ps po) (hb: -9223372036854775808<=b):
  Cb 51 #[.agg (Cd s ps cs po co),.int .i64 a,.int .i64 b] w (.tuple #[.agg (shA (At s a b)),.int .i64 (Cg s a b)]):=by
 unfold Cd shA
 refine whole_w _ _ _ _ _ _ _ _ _ _ _ a b _ _ _ _ _ _ _ _ _ _ w fun W hW k1 k2 k3=> ?_
 have hin':=hin.below hW
 have ck:=Gv s ps po cs co
 unfold Cd Du at ck
 unfold Cg At
 cases hc:Bv s with
 |false=>
  rw[hc] at ck
  have key:=Y6 s.name s.eps s.floor s.last s.scale ps po s.segs.length cs s.opn.length co w.heap.size (w.heap.size+1) (w.heap.size+1+1) W (fun W' hW'=>ck W' (hin'.below hW'))
  have e:=P9
  unfold shA at e
  simp only[Bool.false_eq_true,if_false]
  rw[e]
  exact key
 |true=>
  rw[hc] at ck
  simp only[if_true]
  refine told_ok s.name s.eps s.floor s.last s.scale ps po s.segs.length cs s.opn.length co w.heap.size (w.heap.size+1) (w.heap.size+1+1) _ _ _ _ _ _ _ _ _ _ W (fun W' hW'=>ck W' (hin'.below hW')) fun W' hW'=> ?_
  have key:=callsIn_wide.1 (Wh s ps po cs co a b w.heap.size (w.heap.size+1) (w.heap.size+1+1) W' (hin'.below hW') (El hc) (Q6 hc) hb (k1.below hW') (k2.below hW') (k3.below hW'))
  refine key.mono fun e w' h=>⟨?_,h.2⟩
  rw[h.1]
  have e1:(Kc s a b).flatMap pairs=Dx s a b:=Se s a b
  rw[e1]
  unfold shA
  by_cases hn:Mh s a b= []
  ·rw[if_pos ((Hv s a b).2 hn),if_pos hn]
  ·rw[if_neg fun h=>hn ((Hv s a b).1 h),if_neg hn]
theorem Yi (s:A3) (ps po:Option Addr) (cs co:Nat) (a b:Int) (w:World) (hin:A9 w s ps po) (hb: -9223372036854775808<=b):
  Cb 17 #[.agg (Cd s ps cs po co),.int .i64 a,.int .i64 b] w (.tuple #[.agg (minA (At s a b)),.int .i64 (Cg s a b)]):=by
 have cw:=fun W (hW:Below w.heap.size w W)=>Gw s ps po cs co a b W (hin.below hW) hb
 unfold Cd shA at cw
 exact Yt _ _ _ _ _ _ _ _ _ _ _ a b _ _ _ _ _ _ _ _ _ _ w cw
theorem c_anMost (s:A3) (ps po:Option Addr) (cs co:Nat) (a b:Int) (w:World) (hin:A9 w s ps po) (hb: -9223372036854775808<=b):
  Cb 18 #[.agg (Cd s ps cs po co),.int .i64 a,.int .i64 b] w (.tuple #[.agg (maxA (At s a b)),.int .i64 (Cg s a b)]):=by
 have cw:=fun W (hW:Below w.heap.size w W)=>Gw s ps po cs co a b W (hin.below hW) hb
 unfold Cd shA at cw
 exact anMost_w _ _ _ _ _ _ _ _ _ _ _ a b _ _ _ _ _ _ _ _ _ _ w cw
theorem Yj (s:A3) (ps po:Option Addr) (cs co:Nat) (a b:Int) (w:World) (hin:A9 w s ps po) (hb: -9223372036854775808<=b):
  Cb 13 #[.agg (Cd s ps cs po co),.int .i64 a,.int .i64 b] w (.tuple #[.int .i64 (At s a b).length,.int .i64 (if Cg s a b=9 then 0 else Cg s a b)]):=by
 have cw:=fun W (hW:Below w.heap.size w W)=>Gw s ps po cs co a b W (hin.below hW) hb
 unfold Cd shA at cw
 by_cases h9:Cg s a b=9
 ·have e:=Ki (s:=s) (a:=a) (b:=b) (by omega)
  have key:=Yv _ _ _ _ _ _ _ _ _ _ _ a b _ _ _ _ _ _ _ _ _ _ w h9 cw
  rw[if_pos h9,e]
  exact key
 ·rw[if_neg h9]
  exact Yu _ _ _ _ _ _ _ _ _ _ _ a b _ _ _ _ _ _ _ _ _ _ w h9 cw
theorem c_anSum (s:A3) (ps po:Option Addr) (cs co:Nat) (a b:Int) (w:World) (hin:A9 w s ps po) (hb: -9223372036854775808<=b):
  Cb 19 #[.agg (Cd s ps cs po co),.int .i64 a,.int .i64 b] w (.tuple #[.agg (sumV (At s a b)),.int .i64 (R2 (At s a b) (Cg s a b))]):=by
 have cw:=fun W (hW:Below w.heap.size w W)=>Gw s ps po cs co a b W (hin.below hW) hb
 unfold Cd shA at cw
 have hk:=O6 (P2 s hin.fewS hin.fewO a b)
 unfold R2
 by_cases h0:Cg s a b=0
 ·rw[if_pos h0]
  have c2:=fun W=>S6 (Ak (loL (At s a b))) W (by unfold A7;omega)
  have c3:=fun W=>S6 (Ak (hiL (At s a b))) W (by unfold A7;omega)
  unfold Be at c2 c3
  unfold sumV
  cases h1:inI (Ak (loL (At s a b))) with
  |false=>
   rw[h1] at c2
   exact anSum_2 _ _ _ _ _ _ _ _ _ _ _ a b _ _ _ _ _ _ _ _ _ _ _ _ _ _ w h0 (by decide) cw (fun W _=>c2 W) (fun W _=>c3 W)
  |true=>
   rw[h1] at c2
   cases h2:inI (Ak (hiL (At s a b))) with
   |false=>
    rw[h2] at c3
    exact anSum_3 _ _ _ _ _ _ _ _ _ _ _ a b _ _ _ _ _ _ _ _ _ _ _ _ 0 _ w h0 (by decide) cw (fun W _=>c2 W) (fun W _=>c3 W)
   |true=>
    rw[h2] at c3
    exact anSum_1 _ _ _ _ _ _ _ _ _ _ _ a b _ _ _ _ _ _ _ _ _ _ _ _ 0 0 w h0 cw (fun W _=>c2 W) (fun W _=>c3 W)
 ·rw[if_neg h0]
  have e:=Ki h0
  rw[e]
  exact anSum_0 _ _ _ _ _ _ _ _ _ _ _ a b _ _ _ _ _ _ _ _ _ _ 0 0 0 0 w h0 cw
theorem c_anMean (s:A3) (ps po:Option Addr) (cs co:Nat) (a b:Int) (w:World) (hin:A9 w s ps po) (hb: -9223372036854775808<=b):
  Cb 20 #[.agg (Cd s ps cs po co),.int .i64 a,.int .i64 b] w (.tuple #[.agg (Sk (At s a b)),.int .i64 (Cg s a b)]):=by
 have cw:=fun W (hW:Below w.heap.size w W)=>Gw s ps po cs co a b W (hin.below hW) hb
 unfold Cd shA at cw
 have hk:=O6 (P2 s hin.fewS hin.fewO a b)
 by_cases h0:Cg s a b=0
 ·have hne:0<(At s a b).length:=by
   unfold Cg at h0
   unfold At
   split at h0
   ·rename_i hc
    rw[if_pos hc]
    split at h0
    ·cases h0
    ·rename_i ht
     exact List.length_pos_iff.2 fun h=>ht ((Hv s a b).1 h)
   ·cases h0
  rw[h0] at cw⊢
  obtain⟨l,hl⟩:∃l,At s a b=l:=⟨_,rfl⟩
  rw[hl] at cw hk hne⊢
  have c2:=fun W=>S7 (Ak (loL l)) l.length W (by unfold A7;omega) (by omega) (by omega)
  have c3:=fun W=>S7 (Ak (hiL l)) l.length W (by unfold A7;omega) (by omega) (by omega)
  have bd:∀z:Int,-(2305847407260205056*(l.length:Int))<=z->z<=2305847407260205056*(l.length:Int)-> -2305847407260205056<=z/(l.length:Int)/\z/(l.length:Int)<=2305847407260205056:=fun z h1 h2=>⟨Int.le_ediv_of_mul_le (by omega) (by omega),Int.ediv_le_of_le_mul (by omega) (by omega)⟩
  have b1:=bd _ hk.1.1 hk.1.2
  have b2:=bd _ hk.2.1.1 hk.2.1.2
  have c4:=fun W=>S6 (Ak (loL l)/l.length) W (by unfold A7;omega)
  have c5:=fun W=>S6 (Ak (hiL l)/l.length) W (by unfold A7;omega)
  rw[inI_in (by unfold I64;omega)] at c4 c5
  unfold Be at c2 c3 c4 c5
  unfold Sk
  exact anMean_1 _ _ _ _ _ _ _ _ _ _ _ a b _ _ _ _ _ _ _ _ _ _ _ _ _ _ _ _ _ 0 0 w cw c2 c3 c4 c5
 ·have e:=Ki h0
  have key:=anMean_0 _ _ _ _ _ _ _ _ _ _ _ a b _ _ _ _ _ _ _ _ _ _ w h0 cw
  have e2:Sk []= #[.int .i64 0,.int .i64 0,.int .i64 0,.int .i64 0,.int .i64 0]:=by simp[Sk,loL,hiL,Ak]
  rw[e,e2]
  exact key
end Go.Proofs.YtidfcoooccblaaaGreat
