/- Parts of the proof that follows. No condition. -/
import Derived.RangeFuncNested
import Derived.RangeFuncBound
import Derived.RangeFuncCalls
import Derived.RangeFuncLeaves
import Derived.RangeFuncBox
import Derived.Maps.AppendAt
import Derived.Shelf.Abstract
import Derived.Shelf.RegionOpen
import Derived.WalkKit
import Derived.OwnWalkIn
import Derived.TacticsInMore
import Derived.LoopNIn
import Derived.LoopIn
import Derived.Laws.AppendOwnNone
import Derived.Test.YtdeghcgakkhbmaaGreatSd4
set_option maxRecDepth 100000
set_option maxHeartbeats 8000000
set_option linter.unusedSimpArgs false
set_option linter.unusedVariables false
namespace Go.Proofs.YtdeghcgakkhbmaaGreat
open Go.RowKit
theorem Al.new {w w':World} {p:Option Addr} {l:List Ah} (h:Al w p l) (o i:Nat) (v:Value) (hne:∀a,p=some a->a.block≠o):Al (w.setCell ⟨o,i,none⟩ v) p l:=h.set' hne
section
variable {P:Program} {ops:Array Oper} {C:World->Prop} {X:List (Nat×Nat)} {a0:Act} {Fin:List (Option Tmp×Bi)->Prop} {i:Nat} {o:Oper} {rest:List Oper} {acc:List (Option Tmp×Bi)}
theorem Hc (Φ:Bi) (hcl:A9 (Bn X i) Φ) (hg:o.guard=none) (hal:Au o=false)
  (h:∀(a:Act) (w:World),C w->(∀s∈o.looksAt ops,Af a0 acc s (a.tmps.getD s undef) w)->∃v,(execOp a.eval o).run P w= .ok (.value v) w/\Φ v w)
  (hr:Ao P ops C X a0 Fin (i+1) rest ((o.dst,Φ)::acc)):Ao P ops C X a0 Fin i (o::rest) acc:=
 ⟨Φ,hcl,fun a w hC hE=>⟨fun _=>by
  obtain⟨v,h1,h2⟩:=h a w hC hE
  rw[h1];exact⟨Rex.refl _ _,h2,fun e=>by rw[hal] at e;cases e⟩,fun e=>by rw[Ee hg] at e;cases e⟩,hr⟩
end
def SV (K A R n d E:Int) (B:Nat) (l:List Ah):Bi:=fun v w=>∃p1 cap1 q1 vc1,v= .agg #[K,.slice p1 l.length cap1,A,R,n,d,.slice q1 0 vc1,E]/\Al w p1 l/\l.length<=cap1/\∀a,p1=some a->B<=a.block
def TV (K A R n d E:Int) (B:Nat) (l:List Ah):Bi:=fun v w=>∃p1 cap1 q1 vc1,v= .tuple #[.agg #[K,.slice p1 l.length cap1,A,R,n,d,.slice q1 0 vc1,E],.int .i64 0]/\Al w p1 l/\l.length<=cap1/\∀a,p1=some a->B<=a.block
theorem SV.closed (K A R n d E:Int) (B:Nat) (l:List Ah):A9 [] (SV K A R n d E B l):=fun _ _ _ hr ⟨p',c',q',v',e,h,k⟩=>⟨p',c',q',v',e,h.rex hr rfl,k⟩
theorem TV.closed (K A R n d E:Int) (B:Nat) (l:List Ah):A9 [] (TV K A R n d E B l):=fun _ _ _ hr ⟨p',c',q',v',e,h,k⟩=>⟨p',c',q',v',e,h.rex hr rfl,k⟩
def outOf (s:Aw) (i j:Int):Array Value×Int:=if i<j then (partA (slice (Jo s) i.toNat j.toNat),0) else (#[.int .i64 0,.int .i64 0,.int .i64 0,.int .i64 0,.int .u64 0],9)
theorem vals_back {s:Aw} (hs:Cr s=true) {v:Int} (hv:v∈Jo s): -2305844108725321728<=v/\v<=2305844108725321728:=by
 unfold Jo at hv
 rcases My hs with⟨hk,hline⟩|⟨hk,_,hback⟩
 ·rw[if_neg (by omega)] at hv
  simp only[List.mem_map] at hv
  obtain⟨t,ht,rfl⟩:=hv
  have:=Ju hline.runs ht
  exact Gk.1 (hline.back this.1 this.2.1)
 ·rw[if_pos hk] at hv
  exact raw_back hback hv
end Go.Proofs.YtdeghcgakkhbmaaGreat
namespace Go.Proofs.YtdeghcgakkhbmaaGreat
open Go.RowKit Go.Shelf
attribute [local go_sem] Oper.semAt_some
theorem Mt {P:Program} {n:Nat} {c:Code} {Q:Exit->Act->World->Prop} {a:Act} {w:World} (h:c.wpIn Fence.wide n P (Exit.noGoto Q) a w):(Code.scope c).wpIn Fence.wide n P Q a w:=wpIn_wide.2 (wp_scope_straight (wpIn_wide.1 h))
theorem Xq {F:Fence} {P:Program} {n l:Nat} {c:Code} {Q:Exit->Act->World->Prop} {a:Act} {w:World} (h:c.wpIn F n P Q a w):((Code.label l).seq c).wpIn F n P Q a w:=wpIn_seq (wpIn_label h)
def Eo (t:TypeId) (A B:World):Prop:=∀(b:Nat) (cs:Array Value) (f:Nat×Nat),A.heap[b]? =some (.cells cs t f)->B.heap[b]? =some (.cells cs t f)
theorem Eo.refl (t:TypeId) (A:World):Eo t A A:=fun _ _ _ h=>h
theorem Eo.trans {t:TypeId} {A B C:World} (h:Eo t A B) (k:Eo t B C):Eo t A C:=fun b cs f hb=>k b cs f (h b cs f hb)
theorem Mv {l:List Ah} {k:Nat} {r:Ah} (hr:l[k]? =some r):Ae (l.take (k+1))=Ae (l.take k)++Ce r:=by
 rw[List.take_add_one,hr,E9]
 simp[Ae]
theorem Ps {r:Ah} {j:Nat} (h:(j:Int)<r.c):(Ce r).take (j+1)=(Ce r).take j++ [r.f+r.s*(j:Int)]:=by
 rw[List.take_add_one,Lv r j h]
 rfl
theorem times_room {l:List Ah} {k j:Nat} {r:Ah} (hr:l[k]? =some r) (h:(j:Int)<r.c):(Ae (l.take k)++(Ce r).take j).length<(Ae l).length:=by
 have e:Ae l=Ae (l.take (k+1))++Ae (l.drop (k+1)):=by rw[<-E9,List.take_append_drop]
 rw[e,Mv hr]
 have:=Dt r
 simp
 omega
theorem times_pre {l:List Ah} {k j:Nat} {r:Ah} (hr:l[k]? =some r):Ae (l.take k)++(Ce r).take j<+:Ae l:=by
 have e:Ae l=Ae (l.take (k+1))++Ae (l.drop (k+1)):=by rw[<-E9,List.take_append_drop]
 rw[e,Mv hr]
 exact⟨(Ce r).drop j++Ae (l.drop (k+1)),by rw[List.append_assoc,<-List.append_assoc (List.take j _),List.take_append_drop,List.append_assoc]⟩
theorem all1_in (n:Nat) (hn:1<=n) (lr Bs n₀:Nat) (p:Option Addr) (cap:Nat) (l:List Ah) (hl:∀r,r∈l->Gz r) (hlen:l.length<=256) (Kp:World->World->Prop) (hK:∀ {A B},Kp A B->Below n₀ A B/\Eo 141 A B)
  (J Jx:List Int->World->Prop) (B0:Nat) (hJ:AbidesFrom B0 J)
  (hY:∀pre x W,J pre W->pre.length<(Ae l).length->YieldAt Fence.wide (n-1) Tryz.prog lr #[.int .i64 x] W fun e W'=>(e= .returned (.bool true)/\J (pre++ [x]) W'/\Kp W W')∨(e= .returned (.bool false)/\Jx (pre++ [x]) W'))
  (W:World) (hBs:W.cell? ⟨Bs,0,none⟩=some (.slice p l.length cap)) (hR:Al W p l) (hn₀:∀a,p=some a->a.block<n₀) (hn1:n₀<=W.heap.size) (h0:J [] W):
  CallsIn Fence.wide n Tryz.prog 186 #[.func (.yield lr) #[] #[],.pointer (some ⟨Bs,0,none⟩)] W fun e W'=>(∃v,e= .returned v)/\((∃ys,ys=Ae l/\J ys W')∨(∃pre,pre<+:Ae l/\Jx pre W')):=by
 refine callsIn_of_wp Tryz.func186 rfl trivial ?_ rfl
 simp only[Tryz.ntmps186,List.size_toArray,List.length_cons,List.length_nil,Nat.reduceAdd,Nat.reduceSub,Array.replicate_succ,Array.replicate_zero,List.push_toArray,List.append_toArray,List.nil_append,List.cons_append]
 refine Mt (Xq ?_)
 gi_wp2
 gi_loopw [8] (fun i wr=>∃k:Nat,k<=l.length/\i= .int .i64 k/\J (Ae (l.take k)) wr/\Below n₀ W wr/\W.heap.size<=wr.heap.size) (fun i _=>l.length-(intOf i).toNat)
 case atStart=>exact⟨0,Nat.zero_le _,rfl,h0,Below.refl _ _,Nat.le_refl _⟩
 case round=>
  obtain⟨k,hk,rfl,hJs,hnx,hsz⟩:=hrel
  obtain⟨wo,rfl⟩:∃wo:World,wo=wr:=⟨_,rfl⟩
  rcases Nat.lt_or_ge k l.length with hlt|hge
  ·obtain⟨r,hri⟩:∃r,l[k]? =some r:=⟨l[k]'(by omega),List.getElem?_eq_getElem (by omega)⟩
   have hr:=hl r (List.mem_of_getElem? hri)
   obtain⟨b,o,rfl,k0,k1,k2⟩:=hR.at' k r hri
   have hbl:b<n₀:=hn₀ _ rfl
   have q0:wo.cell? ⟨b,o+k*3,none⟩=some (.int .i64 r.f):=(hnx.cell (p:=⟨b,o+k*3,none⟩) hbl).trans k0
   have q1:wo.cell? ⟨b,o+k*3+1,none⟩=some (.int .i64 r.s):=(hnx.cell (p:=⟨b,o+k*3+1,none⟩) hbl).trans k1
   have q2:wo.cell? ⟨b,o+k*3+2,none⟩=some (.int .i64 r.c):=(hnx.cell (p:=⟨b,o+k*3+2,none⟩) hbl).trans k2
   clear k0 k1 k2
   have r1:=hr.f0;have r2:=hr.f1;have r3:=hr.s0;have r4:=hr.s1;have r5:=hr.c0;have r6:=hr.c1;have r7:=R3 hr;have r8:=hr.last
   gi_wp2
   gi_loopw [14] (fun j wr=>∃m:Nat,(m:Int)<=r.c/\j= .int .i64 m/\J (Ae (l.take k)++(Ce r).take m) wr/\Below n₀ W wr/\W.heap.size<=wr.heap.size/\Blk wr wo.heap.size #[.int .i64 r.f,.int .i64 r.s,.int .i64 r.c] 141) (fun j _=>r.c.toNat-(intOf j).toNat)
   case atStart=>exact⟨0,by omega,rfl,by simpa using hJ _ _ _ none hJs (World.grownBy_alloc wo _ none) (fun r e=>by cases e),hnx.alloc (by omega) _,by simp;omega,Blk.new' rfl⟩
   case round=>
    obtain⟨m,hm,rfl,hJm,hnm,hsm,hb⟩:=hrel
    have kb:=hb.cell
    have fb:=hb.frozen
    by_cases hmc:(m:Int)<r.c
    ·have m0:0<=r.s*(m:Int):=Int.mul_nonneg r3 (by omega)
     have m1:r.f+r.s*(m:Int)<=Dq r:=L0 hr (by omega)
     obtain⟨fn,tmps,assign,body,hy,hR'⟩:=hY _ (r.f+r.s*(m:Int)) wr hJm (times_room hri hmc)
     gi_wp2
     refine hR'.mono ?_
     rintro e W3 (⟨rfl,hJ3,hk3⟩|⟨rfl,hJx3⟩)
     ·obtain⟨g1,g2⟩:=hK hk3
      have g3:=g1.size
      gi_wp2
      go_roundw
      case rel=>exact⟨m+1,by omega,by simp,by rw[Ps hmc,<-List.append_assoc];exact hJ3,hnm.trans g1,by omega,g2 _ _ _ hb⟩
      case measure=>simp[intOf];omega
     ·gi_wp2
      simp only[Exit.noGoto]
      refine bodyPost_end (results_none rfl _ _ _) rfl ?_
      exact⟨⟨_,rfl⟩,.inr ⟨_,by rw[List.append_assoc,<-Ps hmc];exact times_pre hri,hJx3⟩⟩
    ·have e:(m:Int)=r.c:=by omega
     have et:(Ce r).take m=Ce r:=List.take_of_length_le (by rw[Dt];omega)
     rw[et,<-Mv hri] at hJm
     gi_wp2
     go_roundw
     case rel=>exact⟨k+1,by omega,by simp,hJm,hnm,hsm⟩
     case measure=>simp[intOf];omega
  ·obtain rfl:k=l.length:=by omega
   rw[List.take_length] at hJs
   gi_wp2
   simp only[Exit.noGoto]
   refine bodyPost_end (results_none rfl _ _ _) rfl ?_
   exact⟨⟨_,rfl⟩,.inl ⟨_,rfl,hJs⟩⟩
theorem Kv {W w1:World} {n₀ B:Nat} {t e T:TypeId} {size:Nat} {v v':Value} {k:Nat} {xs:List Value} {tmp:Obj} (hv:Boxed W B t v) (hrow:W.ownsRow n₀ e size v k xs) (hgrow:(W.alloc tmp).grownBy w1 v.ownBlock) (h1:T≠t) (h2:T≠e):Eo T W (w1.setCell ⟨B,0,none⟩ v'):=by
 intro b cs f hb
 have hlt:=Di hb
 have e1:b≠B:=by
  rintro rfl
  rw[show W.heap[b]? =_ from hv] at hb
  injection hb with hb
  injection hb with _ h _
  exact h1 h.symm
 rw[Below.heap_setCell w1 ⟨B,0,none⟩ v' b e1]
 rw[hgrow.block b (by simp;omega) ?_,Below.heap_alloc W tmp b hlt]
 ·exact hb
 ·rcases hrow.2 with⟨rfl,_⟩|⟨g,cap,cur,rfl,_,hgb,_⟩
  ·simp[Value.ownBlock]
  ·intro e'
   obtain rfl:b=g:=by simpa [Value.ownBlock] using e'
   rw[hgb] at hb
   injection hb with hb
   injection hb with _ h _
   exact h2 h.symm
theorem appendSeqI (gf:Nat) (lb:Array Value) (xs:List Int) (hlen:xs.length<=1000000) (w w0:World) (hw0:Below w0.heap.size w0 w) (Kp:World->World->Prop) (G7:∀args w,(callFunc gf args).run Tryz.prog w= .ok (.enter gf args) w)
  (hKp:∀ {A B},Below w.heap.size A B->(∀T,T≠133->T≠2->Eo T A B)->Kp A B) (hKt:∀ {A B C},Kp A B->Kp B C->Kp A C) (hKb:∀(W:World) (l:Nat) (o o':Obj),w.heap.size<=l->W.heap[l]? =some o->o.isCells=false->o.isWalk=false->Kp W (W.putObj l o'))
  (hseq:SeqStopsK Fence.wide 2 Tryz.prog gf lb (fun x:Int=> #[Value.int .i64 x]) Kp (fun ys=>ys=xs) (fun pre=>pre<+:xs) xs.length w0):
  CallsIn Fence.wide 3 Tryz.prog 185 #[.slice none 0 0,.func (.func gf) #[] lb] w fun e W'=>∃v,e= .returned v/\W'.ownsRow w.heap.size 2 1 v xs.length (xs.map (Value.int .i64))/\Below w.heap.size w W':=by
 obtain⟨i0,hi,hz0,hz1,hz2⟩:=info_parts Tryz.infoInt
 refine callsIn_of_wp_marks Tryz.func185 rfl trivial ?_ rfl
 simp only[Tryz.ntmps185,List.size_toArray,List.length_cons,List.length_nil,Nat.reduceAdd,Nat.reduceSub,Array.replicate_succ,Array.replicate_zero,List.push_toArray,List.append_toArray,List.nil_append,List.cons_append]
 gi_wp2
 have bO:=Boxed.new w 133 (.slice none 0 0)
 have hB0:Below w.heap.size w (w.alloc (.cells #[.slice none 0 0] 133)):=(Below.refl _ w).alloc (Nat.le_refl _) _
 refine wpIn_rangeFunc_ownG rfl (by omega) (gf:=gf) (lb:=lb) rfl trivial G7 hseq hKt (fun W l o o' hl=>hKb W l o o' (by simp at hl;omega)) (hw0.trans (hB0.mono hw0.size)) (fun _=>rfl)
  (fun pre W=>(∃v,Boxed W w.heap.size 133 v/\W.ownsRow w.heap.size 2 1 v pre.length (pre.map (Value.int .i64))/\True)/\Below w.heap.size w W)
  (fun _ _ _=>False)
  (OwnFrom.and (Own.from (holdsRow_own w.heap.size w.heap.size 133 2 1 (fun pre:List Int=>pre.length) (fun pre=>pre.map (Value.int .i64)) (fun _ _=>True)) _) (ownFrom_below (Nat.le_refl _) (by simp)))
  (fun _ _ _ _ _ hs _ _=>hs)
  ⟨⟨_,bO,World.ownsRow_nil _ _ _ _,trivial⟩,hB0⟩
  (fun x=> {tmps:= #[.slice none 0 0,.func (.func gf) #[] lb,.pointer (some ⟨w.heap.size,0,none⟩),undef,.slice none 0 0,x,.func (.func gf) #[] lb,x,undef,undef,undef,undef,undef],defers:= []}) ?assign ?body ?done ?stop
 case assign=>
  intro l x W K hK
  gi_wp2
  exact hK
 case body=>
  rintro l pre x W ⟨⟨v,hv,hrow,_⟩,hB⟩ hlt
  have hc:=hv.cell
  gi_wp2_with (gi_at_builtin;refine wpListIn_append_own _ rfl _ _ 133 rfl w.heap.size 2 i0 (.int .i64 0) 1 8 (by kernel_rfl) hi hz0 hz1 hz2 rfl (by decide) _ _ _ rfl (hrow.alloc _) ⟨W.heap.size,0,none⟩ 1 1 [x] rfl rfl (cell_one_new _ _ _) (by simp[Value.oneCell']) (by simp[maxLen];omega) (by omega) (by have:=hB.size;simp;omega) ?_;intro v' w1 hown' hgrow _;obtain⟨g',cap',rfl⟩:=ownsRow_succ hown';obtain⟨hv1,hv2,hr2,hk2,hb2⟩:=hv.appended (by decide) hrow hB.size (Nat.le_refl _) hown' hgrow;have hkt:=fun T h1 h2=>Kv (v':= .slice (some ⟨g',0,none⟩) (pre.length+1) cap') (T:=T) hv hrow hgrow h1 h2;have hc1:=hv1.cell;have hf1:=hv1.frozen)
  exact⟨hk2.from _,hKp hb2 hkt,⟨_,hv2,by simpa using hr2,trivial⟩,hB.trans hb2⟩
 case done=>
  rintro D ys W hD rfl ⟨⟨v,hv,hrow,_⟩,hB⟩ hK
  have hc:=hv.cell
  gi_wp2
  refine⟨by simp,.inl ⟨_,_,rfl,run_takeDeferred hK,?_⟩⟩
  exact⟨_,results_tmp rfl _ _ _,v,rfl,ownsRow_putObj hrow _ hK rfl,hB.trans (belowK_b (w:=w) (Nat.le_refl _) W D _ _ (by simp at hD;omega) hK rfl rfl)⟩
 case stop=>
  rintro D c pre W _ _ h _
  exact h.elim
end Go.Proofs.YtdeghcgakkhbmaaGreat
namespace Go.Proofs.YtdeghcgakkhbmaaGreat
open Go.RowKit Go.Shelf
theorem Ka {W:World} {b b':Nat} {e:TypeId} {s:Nat} {v:Value} {k:Nat} {xs:List Value} (h:W.ownsRow b e s v k xs) (hb:b'<=b):W.ownsRow b' e s v k xs:=by
 obtain⟨h1,h2|⟨g,cap,cur,e1,hg,r⟩⟩:=h
 ·exact⟨h1,.inl h2⟩
 ·exact⟨h1,.inr ⟨g,cap,cur,e1,Nat.le_trans hb hg,r⟩⟩
theorem Jj {T:TypeId} {W:World} {l:Nat} {o:Obj} (o':Obj) (hl:W.heap[l]? =some o) (ho:o.isCells=false):Eo T W (W.putObj l o'):=by
 intro b cs f hb
 rw[World.putObj_heap_other]
 ·exact hb
 ·rintro rfl
  rw[hb] at hl
  cases hl
  cases ho
theorem Qd {T:TypeId} {A B:World} (h:Below A.heap.size A B):Eo T A B:=fun b cs f hb=>(h.block b (Di hb)).trans hb
theorem collectI (gf:Nat) (lb:Array Value) (xs:List Int) (hlen:xs.length<=1000000) (w w0:World) (hw0:Below w0.heap.size w0 w) (Kp:World->World->Prop) (G7:∀args w,(callFunc gf args).run Tryz.prog w= .ok (.enter gf args) w)
  (hKp:∀ {A B},Below w.heap.size A B->(∀T,T≠133->T≠2->Eo T A B)->Kp A B) (hKt:∀ {A B C},Kp A B->Kp B C->Kp A C) (hKb:∀(W:World) (l:Nat) (o o':Obj),w.heap.size<=l->W.heap[l]? =some o->o.isCells=false->o.isWalk=false->Kp W (W.putObj l o'))
  (hseq:SeqStopsK Fence.wide 2 Tryz.prog gf lb (fun x:Int=> #[Value.int .i64 x]) Kp (fun ys=>ys=xs) (fun pre=>pre<+:xs) xs.length w0):
  Calls Tryz.prog 171 #[.func (.func gf) #[] lb] w fun e W'=>∃v,e= .returned v/\W'.ownsRow w.heap.size 2 1 v xs.length (xs.map (Value.int .i64))/\Below w.heap.size w W':=by
 have c1:=Hd (callsIn_wide.1 (appendSeqI gf lb xs hlen w w0 hw0 Kp G7 hKp hKt hKb hseq))
 clear hKp hKt hKb hseq G7 hw0
 go_enter Tryz.func171,Tryz.ntmps171
 go_wp2_with fail
 refine c1.out.mono ?_
 rintro e w1 ⟨v,rfl,hv,hB⟩
 replace hv:=Hd hv
 replace hB:=Hd hB
 go_wp2
 go_ret
 exact⟨v,rfl,hv.out,hB.out⟩
theorem all_w (p:Option Addr) (len cap:Nat) (w:World):Calls Tryz.prog 172 #[.slice p len cap] w fun e w'=>e= .returned (.func (.func 186) #[] #[.pointer (some ⟨w.heap.size,0,none⟩)])/\w'=w.alloc (.cells #[.slice p len cap] 130):=by
 have hmf:∀(fn:Fn) (first cap:Array Value) (w:World),(Instr.makeFunc fn first cap).run Tryz.prog w= .ok (.func fn first cap) w:=fun _ _ _ _=>rfl
 go_enter Tryz.func172,Tryz.ntmps172
 go_wp2
 go_ret
 exact⟨rfl,rfl⟩
def TimesOut (w:World) (l:List Ah) (e:Ending) (w':World):Prop:=∃v,e= .returned (.tuple #[v,.int .i64 0])/\w'.ownsRow w.heap.size 2 1 v (Ae l).length ((Ae l).map (Value.int .i64))/\Below w.heap.size w w'
theorem Ti (p:Option Addr) (cap:Nat) (l:List Ah) (w:World) (Bs:Nat) (hl:Cf l) (h:Al w p l) (hBs:Blk w Bs #[.slice p l.length cap] 130):
  Calls Tryz.prog 171 #[.func (.func 186) #[] #[.pointer (some ⟨Bs,0,none⟩)]] w fun e W'=>∃v,e= .returned v/\W'.ownsRow w.heap.size 2 1 v (Ae l).length ((Ae l).map (Value.int .i64))/\Below w.heap.size w W':=by
 have hlt:∀a,p=some a->a.block<w.heap.size:=by
  rintro a rfl
  have:=hl.some'
  obtain⟨b,o,e,k0,_⟩:=h.at' 0 (l[0]'(by omega)) (List.getElem?_eq_getElem (by omega))
  cases e
  exact Ap k0
 have hcnt:=hl.count
 have hlen:=Bk hl
 refine collectI 186 _ (Ae l) (by omega) w w (Below.refl _ _) (fun A B=>Below w.heap.size A B/\Eo 141 A B) (enters_of Tryz.func186 (by kernel_rfl) rfl)
  (fun hb hk=>⟨hb,hk _ (by decide) (by decide)⟩) (fun h k=>⟨h.1.trans k.1,h.2.trans k.2⟩) (fun W k o o' hk ho h1 h2=>⟨belowK_b (Nat.le_refl _) W k o o' hk ho h1 h2,Jj o' ho h1⟩) ?_
 intro lr J Jx W hW hJ _ hY h0
 exact all1_in 2 (by omega) lr Bs w.heap.size p cap l hl.each (by have:=hl.few;omega) _ (fun h=>h) J Jx _ hJ hY W ((hBs.below hW).cell 0) (h.below hW) hlt hW.size h0
theorem c_Times (p:Option Addr) (cap:Nat) (l:List Ah) (w:World) (hl:Cf l) (h:Al w p l):Calls Tryz.prog 157 #[.slice p l.length cap] w (TimesOut w l):=by
 have hlen:=hl.few
 have c1:=fun W (hW:Below w.heap.size w W)=>Ql p cap l W (by omega) (h.below hW)
 rw[(Ei l).2 hl] at c1
 have c2:=Hd (fun W Bs (hW:Below w.heap.size w W) (hb:Blk W Bs #[.slice p l.length cap] 130)=>Ti p cap l W Bs hl (h.below hW) hb)
 have H_c1:=Hd c1
 clear c1
 go_enter Tryz.func157,Tryz.ntmps157
 have c1:=H_c1.out
 go_wp2_with fail
 refine(c1 _ (Aa)).mono ?_
 rintro e w1 ⟨rfl,hb1⟩
 clear c1
 have z1:=hb1.size
 go_wp2_with fail
 refine(all_w _ _ _ _).mono ?_
 rintro e w2 ⟨rfl,rfl⟩
 go_wp2_with fail
 refine(c2.out _ _ (Aa) (Blk.new' rfl)).mono ?_
 rintro e w3 ⟨v,rfl,hv,hB⟩
 replace hv:=Hd hv
 have hBB:Hid (Below w.heap.size w w3):=Hd (Aa)
 clear hB
 go_wp2
 refine bodyPost_ret (v:= .tuple #[v,.int .i64 0]) (by simp[results,Tryz.results157,go_sem]) rfl ⟨v,rfl,Ka hv.out (by simp;omega),hBB.out⟩
attribute [local go_sem] Oper.semAt_some
def B9 (s:Aw):List (Int×Int):=(Ae s.runs).zip (Jo s)
theorem Gj {s:Aw} (hs:Cr s=true):((B9 s).length:Int)=cnt s.runs:=by
 have h1:=Bk (Bp hs)
 have h2:=Je hs
 unfold B9
 simp
 omega
theorem pts_at {s:Aw} (hs:Cr s=true) {k:Nat} (hk:(k:Int)<cnt s.runs):∃t,(Ae s.runs)[k]? =some t/\(B9 s)[k]? =some (t,S7 s k):=by
 have h1:=Bk (Bp hs)
 have h2:=Je hs
 refine⟨(Ae s.runs)[k]'(by omega),List.getElem?_eq_getElem _,?_⟩
 unfold B9 S7
 rw[List.getElem?_eq_getElem (by simp;omega),List.getElem_zip]
 simp
 rw[List.getElem?_eq_getElem (by omega)]
 rfl
theorem Hj {β:Type} {B:Nat} {J:β->World->Prop} (hJ:AbidesFrom B J) {s:β} {A C:World} (h:J s A) (hb:Below A.heap.size A C):J s C:=
 hJ s A C none h ⟨hb.os,hb.tape,hb.output,hb.size,fun i hi _=>hb.block i hi⟩ (fun r e=>by cases e)
structure KeepsPts (s:Aw) (p q:Option Addr) (cap vc Bs n₀:Nat) (A B:World):Prop where
 size:A.heap.size<=B.heap.size
 seg:C0 A s p q->C0 B s p q
 box:Blk A Bs (C9 s p q cap vc) 190->Blk B Bs (C9 s p q cap vc) 190
 nums:∀(b:Nat) (cs:Array Value),n₀<=b->Blk A b cs 2->Blk B b cs 2
theorem points1_in (n:Nat) (hn:1<=n) (lr Bs n₀:Nat) (s:Aw) (p q:Option Addr) (cap vc:Nat) (hs:Cr s=true) (Kp:World->World->Prop) (hK:∀ {A B},Kp A B->KeepsPts s p q cap vc Bs n₀ A B)
  (J Jx:List (Int×Int)->World->Prop) (B0:Nat) (hJ:AbidesFrom B0 J)
  (hY:∀pre x W,J pre W->pre.length<(B9 s).length->YieldAt Fence.wide (n-1) Tryz.prog lr #[.agg #[x.1,x.2]] W fun e W'=>(e= .returned (.bool true)/\J (pre++ [x]) W'/\Kp W W')∨(e= .returned (.bool false)/\Jx (pre++ [x]) W'))
  (W:World) (hBs:Blk W Bs (C9 s p q cap vc) 190) (hin:C0 W s p q) (hn₀:n₀<=W.heap.size) (h0:J [] W):
  CallsIn Fence.wide n Tryz.prog 160 #[.func (.yield lr) #[] #[],.pointer (some ⟨Bs,0,none⟩)] W fun e W'=>(∃v,e= .returned v)/\((∃ys,ys=B9 s/\J ys W')∨(∃pre,pre<+:B9 s/\Jx pre W')):=by
 have hl:=Bp hs
 have ct:=fun W' (hW:Below W.heap.size W W')=>c_Times p cap s.runs W' hl (hin.runs.below hW)
 have hlen:=Hd (Gj hs)
 have hlt:=Bk hl
 have hcnt:=D0 hl
 have hBs':=hBs
 unfold C9 at hBs'
 have k:=hBs'.cell
 refine callsIn_of_wp Tryz.func160 rfl trivial ?_ rfl
 simp only[Tryz.ntmps160,List.size_toArray,List.length_cons,List.length_nil,Nat.reduceAdd,Nat.reduceSub,Array.replicate_succ,Array.replicate_zero,List.push_toArray,List.append_toArray,List.nil_append,List.cons_append]
 have hmf:∀(fn:Fn) (first cap:Array Value) (w:World),(Instr.makeFunc fn first cap).run Tryz.prog w= .ok (.func fn first cap) w:=fun _ _ _ _=>rfl
 refine Mt ?_
 gi_wp2_with (refine⟨trivial,?_⟩;gi_at_call 157;refine(callsIn_wide.2 (ct _ (Aa))).mono ?_;rintro e w1 ⟨v,rfl,hv,hB⟩)
 clear k ct
 obtain⟨N,hN⟩:∃N,(Ae s.runs).length=N+1:=⟨(Ae s.runs).length-1,by omega⟩
 rw[hN] at hv
 obtain⟨_,h2|⟨g,cap',cur,rfl,hg,hb,hnc,_,hc,htk⟩⟩:=hv
 ·omega
 have hs0:=hB.size
 have hin1:=hin.below hB
 have hbs1:=hBs.below hB
 have hJ1:=Hj hJ h0 hB
 have htk':cur.toList.take ((N+1)*1)=(Ae s.runs).map (Value.int .i64):=htk
 have HN:=Hd hN
 clear hs0 htk hBs' hN hlt
 clear hBs hin h0 hB
 refine wpIn_label ?_
 gi_wp2
 gi_loopw [19] (fun i wr=>∃k:Nat,k<=N+1/\i= .int .i64 k/\J ((B9 s).take k) wr/\C0 wr s p q/\Blk wr Bs (C9 s p q cap vc) 190/\Blk wr g cur 2) (fun i _=>N+1-(intOf i).toNat)
 case atStart=>exact⟨0,Nat.zero_le _,rfl,hJ1,hin1,hbs1,hb⟩
 case round=>
  obtain⟨k,hk,rfl,hJk,hik,hbk,hgk⟩:=hrel
  rcases Nat.lt_or_ge k (N+1) with hlk|hge
  ·have hkc:(k:Int)<cnt s.runs:=by have:=Bk hl;have:=HN.out;omega
   obtain⟨t,ht1,ht2⟩:=pts_at hs hkc
   have hcell:wr.cell? ⟨g,k,none⟩=some (t):=by rw[cell_of_row wr g k cur _ (0,0) hgk];exact Eh htk' (by simp[ht1])
   have cv:=Hd (c_segValue s p q cap vc k wr hik hs (by omega) hkc)
   replace ht1:=Hd ht1
   replace ht2:=Hd ht2
   replace htk':=Hd htk'
   have hst:(B9 s).take (k+1)=(B9 s).take k++ [(t,S7 s k)]:=by rw[List.take_add_one,ht2.out];rfl
   have Hst:=Hd hst
   have hroom:((B9 s).take k).length<(B9 s).length:=by have:=hlen.out;simp;omega
   clear hst
   gi_wp2_with (refine⟨trivial,?_⟩;gi_at_call 161;refine(callsIn_wide.2 cv.out).mono ?_;rintro e w2 ⟨rfl,hb2⟩;obtain⟨fn,tmps,assign,body,hy,hR⟩:=hY _ (t,S7 s k) w2 (Hj hJ hJk hb2) hroom;dsimp only at hy)
   refine hR.mono ?_
   rintro e W3 (⟨rfl,hJ3,hk3⟩|⟨rfl,hJx3⟩)
   ·have hkp:=hK hk3
    gi_wp2
    go_roundw
    case rel=>exact⟨k+1,by omega,by simp,by rw[Hst.out];exact hJ3,hkp.seg (hik.below hb2),hkp.box (hbk.below hb2),hkp.nums g cur (by omega) (hgk.below hb2)⟩
    case measure=>simp[intOf];omega
   ·gi_wp2
    simp only[Exit.noGoto]
    refine bodyPost_end (results_none rfl _ _ _) rfl ?_
    exact⟨⟨_,rfl⟩,.inr ⟨_,by rw[<-Hst.out];exact List.take_prefix _ _,hJx3⟩⟩
  ·obtain rfl:k=N+1:=by omega
   have e:(B9 s).take (N+1)=B9 s:=List.take_of_length_le (by have:=hlen.out;have:=HN.out;have:=Bk hl;omega)
   rw[e] at hJk
   clear e
   gi_wp2
   simp only[Exit.noGoto]
   refine bodyPost_end (results_none rfl _ _ _) rfl ?_
   exact⟨⟨_,rfl⟩,.inl ⟨_,rfl,hJk⟩⟩
def Ax (l:List (Int×Int)):List Value:=l.flatMap fun x=> [.int .i64 x.1,.int .i64 x.2]
theorem Hf (l:List (Int×Int)) (x:Int×Int):Ax (l++ [x])=Ax l++ [.int .i64 x.1,.int .i64 x.2]:=by simp[Ax]
theorem Tryz.infoPoint :(Tryz.prog.info? 58).map (fun i=>(i.zero,i.size,i.bytes))=some (some (.agg #[.int .i64 0,.int .i64 0]),2,16):=by kernel_rfl
theorem Hh (W:World) (a b:Value) (t:TypeId) (j:Nat) (u:Value) (h: [a,b][j]? =some u):(W.alloc (.cells #[a,b] t)).cell? ((⟨W.heap.size,0,none⟩:Addr).add j)=some u:=by
 have hb:Blk (W.alloc (.cells #[a,b] t)) W.heap.size #[a,b] t:=Blk.new' rfl
 have hadd:(⟨W.heap.size,0,none⟩:Addr).add j=⟨W.heap.size,j,none⟩:=by unfold Addr.add;split<;>simp_all
 rw[hadd,hb.cell]
 simpa using h
theorem Dr {β:Type} (B:Nat) (t:TypeId) (f:β->Array Value):Own (fun s W=>Blk W B (f s) t):=fun s X Y row hs hg hrow=>by
 refine(hg.block B hs.lt fun e=> ?_).trans hs
 obtain⟨o,ho,hc⟩:=hrow B e.symm
 rw[show X.heap[B]? =_ from hs] at ho;cases ho;cases hc
theorem appendSeqP (gf:Nat) (lb:Array Value) (xs:List (Int×Int)) (hlen:xs.length<=1000000) (w w0:World) (hw0:Below w0.heap.size w0 w) (Kp:World->World->Prop) (G7:∀args w,(callFunc gf args).run Tryz.prog w= .ok (.enter gf args) w)
  (hKp:∀ {A B},Below w.heap.size A B->(∀T,T≠33->T≠58->Eo T A B)->Kp A B) (hKt:∀ {A B C},Kp A B->Kp B C->Kp A C) (hKb:∀(W:World) (l:Nat) (o o':Obj),w.heap.size<=l->W.heap[l]? =some o->o.isCells=false->o.isWalk=false->Kp W (W.putObj l o'))
  (hseq:SeqStopsK Fence.wide 2 Tryz.prog gf lb (fun x:Int×Int=> #[Value.agg #[.int .i64 x.1,.int .i64 x.2]]) Kp (fun ys=>ys=xs) (fun pre=>pre<+:xs) xs.length w0):
  CallsIn Fence.wide 3 Tryz.prog 159 #[.slice none 0 0,.func (.func gf) #[] lb] w fun e W'=>∃v,e= .returned v/\W'.ownsRow w.heap.size 58 2 v xs.length (Ax xs)/\Below w.heap.size w W':=by
 obtain⟨i0,hi,hz0,hz1,hz2⟩:=info_parts Tryz.infoPoint
 refine callsIn_of_wp_marks Tryz.func159 rfl trivial ?_ rfl
 simp only[Tryz.ntmps159,List.size_toArray,List.length_cons,List.length_nil,Nat.reduceAdd,Nat.reduceSub,Array.replicate_succ,Array.replicate_zero,List.push_toArray,List.append_toArray,List.nil_append,List.cons_append]
 gi_wp2
 have bO:=Boxed.new w 33 (.slice none 0 0)
 have hB0:Below w.heap.size w (w.alloc (.cells #[.slice none 0 0] 33)):=(Below.refl _ w).alloc (Nat.le_refl _) _
 refine wpIn_rangeFunc_ownH rfl (by omega) (gf:=gf) (lb:=lb) rfl trivial G7 hseq hKt (fun W l o o' hl=>hKb W l o o' (by simp at hl;omega)) (hw0.trans (hB0.mono hw0.size)) (fun _=>rfl)
  (fun pre W=>(∃v,Boxed W w.heap.size 33 v/\W.ownsRow w.heap.size 58 2 v pre.length (Ax pre)/\True)/\Below w.heap.size w W)
  (fun _ _ _=>False)
  (OwnFrom.and (Own.from (holdsRow_own w.heap.size w.heap.size 33 58 2 (fun pre:List (Int×Int)=>pre.length) (fun pre=>Ax pre) (fun _ _=>True)) _) (ownFrom_below (Nat.le_refl _) (by simp)))
  (fun _ _ _ _ _ hs _ _=>hs)
  ⟨⟨_,bO,World.ownsRow_nil _ _ _ _,trivial⟩,hB0⟩
  (fun x a' W=>∃Bx,w.heap.size<Bx/\Blk W Bx #[.int .i64 x.1,.int .i64 x.2] 58/\a'= {tmps:= #[.slice none 0 0,.func (.func gf) #[] lb,.pointer (some ⟨w.heap.size,0,none⟩),undef,.slice none 0 0,.pointer (some ⟨Bx,0,none⟩),.func (.func gf) #[] lb,.agg #[.int .i64 x.1,.int .i64 x.2],undef,undef,undef,undef,undef],defers:= []})
  (fun x a' _ X Y row hs hg hr=>by obtain⟨Bx,h1,h2,h3⟩:=hs;exact⟨Bx,h1,Dr Bx 58 (fun(_:Unit)=> #[Value.int .i64 x.1,.int .i64 x.2]) () X Y row h2 hg (fun r e=>(hr r e).2),h3⟩) ?assign ?body ?done ?stop
 case assign=>
  rintro l pre x W K ⟨⟨v,hv,hrow,_⟩,hB⟩ hK
  gi_wp2
  exact hK _ _ ((KeepsOthers.alloc _ _).from _) (hKp ((Below.refl _ W).alloc hB.size _) (fun T _ _=>Qd ((Below.refl _ _).alloc (Nat.le_refl _) _))) ⟨⟨v,hv.alloc _,hrow.alloc _,trivial⟩,hB.alloc hB.size _⟩ ⟨W.heap.size,hv.lt,Blk.new' rfl,rfl⟩
 case body=>
  rintro l pre x a' W hl ⟨r,hr⟩ ⟨⟨v,hv,hrow,_⟩,hB⟩ ⟨Bx,hBx,bX,rfl⟩ hlt
  have hc:=hv.cell
  have kx:=bX.cell
  gi_wp2_with (gi_at_builtin;refine wpListIn_append_own _ rfl _ _ 33 rfl w.heap.size 58 i0 (.agg #[.int .i64 0,.int .i64 0]) 2 16 (by kernel_rfl) hi hz0 hz1 hz2 rfl (by decide) _ _ _ rfl (hrow.alloc _) ⟨W.heap.size,0,none⟩ 1 1 [.int .i64 x.1,.int .i64 x.2] rfl rfl (Hh _ _ _ _) (by simp[Value.oneCell']) (by simp[maxLen];omega) (by omega) (by have:=hB.size;simp;omega) ?_;intro v' w1 hown' hgrow _;obtain⟨g',cap',rfl⟩:=ownsRow_succ hown';obtain⟨hv1,hv2,hr2,hk2,hb2⟩:=hv.appended (by decide) hrow hB.size (Nat.le_refl _) hown' hgrow;have hkt:=fun T h1 h2=>Kv (v':= .slice (some ⟨g',0,none⟩) (pre.length+1) cap') (T:=T) hv hrow hgrow h1 h2;have hc1:=hv1.cell;have hf1:=hv1.frozen)
  exact⟨hk2.from _,hKp hb2 hkt,⟨_,hv2,by rw[Hf];simpa using hr2,trivial⟩,hB.trans hb2⟩
 case done=>
  rintro D ys W hD rfl ⟨⟨v,hv,hrow,_⟩,hB⟩ hK
  have hc:=hv.cell
  gi_wp2
  refine⟨by simp,.inl ⟨_,_,rfl,run_takeDeferred hK,?_⟩⟩
  exact⟨_,results_tmp rfl _ _ _,v,rfl,ownsRow_putObj hrow _ hK rfl,hB.trans (belowK_b (w:=w) (Nat.le_refl _) W D _ _ (by simp at hD;omega) hK rfl rfl)⟩
 case stop=>
  rintro D c pre W _ _ h _
  exact h.elim
theorem collectP (gf:Nat) (lb:Array Value) (xs:List (Int×Int)) (hlen:xs.length<=1000000) (w w0:World) (hw0:Below w0.heap.size w0 w) (Kp:World->World->Prop) (G7:∀args w,(callFunc gf args).run Tryz.prog w= .ok (.enter gf args) w)
  (hKp:∀ {A B},Below w.heap.size A B->(∀T,T≠33->T≠58->Eo T A B)->Kp A B) (hKt:∀ {A B C},Kp A B->Kp B C->Kp A C) (hKb:∀(W:World) (l:Nat) (o o':Obj),w.heap.size<=l->W.heap[l]? =some o->o.isCells=false->o.isWalk=false->Kp W (W.putObj l o'))
  (hseq:SeqStopsK Fence.wide 2 Tryz.prog gf lb (fun x:(Int×Int)=> #[Value.agg #[.int .i64 x.1,.int .i64 x.2]]) Kp (fun ys=>ys=xs) (fun pre=>pre<+:xs) xs.length w0):
  Calls Tryz.prog 129 #[.func (.func gf) #[] lb] w fun e W'=>∃v,e= .returned v/\W'.ownsRow w.heap.size 58 2 v xs.length (Ax xs)/\Below w.heap.size w W':=by
 have c1:=Hd (callsIn_wide.1 (appendSeqP gf lb xs hlen w w0 hw0 Kp G7 hKp hKt hKb hseq))
 clear hKp hKt hKb hseq G7 hw0
 go_enter Tryz.func129,Tryz.ntmps129
 go_wp2_with fail
 refine c1.out.mono ?_
 rintro e w1 ⟨v,rfl,hv,hB⟩
 replace hv:=Hd hv
 replace hB:=Hd hB
 go_wp2
 go_ret
 exact⟨v,rfl,hv.out,hB.out⟩
theorem points_w (K A R n d E:Int) (p q:Option Addr) (len cap m vc:Nat) (w:World):Calls Tryz.prog 130 #[.agg #[.int .i64 K,.slice p len cap,.int .i64 A,.int .i64 R,.int .i64 n,.int .i64 d,.slice q m vc,.int .i64 E]] w fun e w'=>e= .returned (.func (.func 160) #[] #[.pointer (some ⟨w.heap.size,0,none⟩)])/\w'=w.alloc (.cells #[.int .i64 K,.slice p len cap,.int .i64 A,.int .i64 R,.int .i64 n,.int .i64 d,.slice q m vc,.int .i64 E] 190):=by
 have hmf:∀(fn:Fn) (first cap:Array Value) (w:World),(Instr.makeFunc fn first cap).run Tryz.prog w= .ok (.func fn first cap) w:=fun _ _ _ _=>rfl
 go_enter Tryz.func130,Tryz.ntmps130
 go_wp2
 go_ret
 exact⟨rfl,rfl⟩
theorem Al.keep {w A B:World} {p:Option Addr} {l:List Ah} (h:Al w p l) (hb:Below w.heap.size A B) (ha:Al A p l):Al B p l:=⟨fun i r hr=>by
 obtain⟨b,o,e,k0,k1,k2⟩:=ha.at' i r hr
 obtain⟨b',o',e',q0,_⟩:=h.at' i r hr
 rw[e] at e'
 injection e' with e'
 injection e' with e1 e2
 subst e1
 have hlt:=Ap q0
 exact⟨b,o,e,(hb.cell (p:=⟨b,_,none⟩) hlt).trans k0,(hb.cell (p:=⟨b,_,none⟩) hlt).trans k1,(hb.cell (p:=⟨b,_,none⟩) hlt).trans k2⟩⟩
theorem A3.keep {w A B:World} {p:Option Addr} {l:List Int} (h:A3 w p l) (hb:Below w.heap.size A B) (ha:A3 A p l):A3 B p l:=⟨fun i r hr=>by
 obtain⟨b,o,e,k0⟩:=ha.at' i r hr
 obtain⟨b',o',e',q0⟩:=h.at' i r hr
 rw[e] at e'
 injection e' with e'
 injection e' with e1 e2
 subst e1
 exact⟨b,o,e,(hb.cell (p:=⟨b,_,none⟩) (Ap q0)).trans k0⟩⟩
theorem C0.keep {w A B:World} {s:Aw} {p q:Option Addr} (h:C0 w s p q) (hb:Below w.heap.size A B) (ha:C0 A s p q):C0 B s p q:=⟨h.runs.keep hb ha.runs,h.raw.keep hb ha.raw,h.fewR,h.fewV⟩
theorem Sc (s:Aw) (p q:Option Addr) (cap vc:Nat) (w:World) (Bs:Nat) (hs:Cr s=true) (h:C0 w s p q) (hBs:Blk w Bs (C9 s p q cap vc) 190):
  Calls Tryz.prog 129 #[.func (.func 160) #[] #[.pointer (some ⟨Bs,0,none⟩)]] w fun e W'=>∃v,e= .returned v/\W'.ownsRow w.heap.size 58 2 v (B9 s).length (Ax (B9 s))/\Below w.heap.size w W':=by
 have hcnt:=D0 (Bp hs)
 have hlen:=Gj hs
 have hlt:=hBs.lt
 refine collectP 160 _ (B9 s) (by omega) w w (Below.refl _ _) (fun A B=>Below w.heap.size A B/\Eo 2 A B) (enters_of Tryz.func160 (by kernel_rfl) rfl)
  (fun hb hk=>⟨hb,hk _ (by decide) (by decide)⟩) (fun h k=>⟨h.1.trans k.1,h.2.trans k.2⟩) (fun W k o o' hk ho h1 h2=>⟨belowK_b (Nat.le_refl _) W k o o' hk ho h1 h2,Jj o' ho h1⟩) ?_
 intro lr J Jx W hW hJ _ hY h0
 exact points1_in 2 (by omega) lr Bs W.heap.size s p q cap vc hs (fun A B=>Below w.heap.size A B/\Eo 2 A B) (fun hk=>⟨hk.1.size,fun ha=>h.keep hk.1 ha,fun ha=>(hk.1.block Bs hlt).trans ha,fun b cs _ ha=>hk.2 b cs _ ha⟩) J Jx _ hJ hY W (hBs.below hW) (h.below hW) (Nat.le_refl _) h0
def Sy (s:Aw) (B:Nat) (v:Value) (w:World):Prop:=w.ownsRow B 58 2 v (B9 s).length (Ax (B9 s))
theorem c_Points1 (s:Aw) (p q:Option Addr) (cap vc:Nat) (w:World) (hs:Cr s=true) (h:C0 w s p q):
  Calls Tryz.prog 128 #[.agg (C9 s p q cap vc)] w fun e w'=>∃v,e= .returned (.tuple #[v,.int .i64 0])/\Sy s w.heap.size v w'/\Below w.heap.size w w':=by
 have c2:=Hd (fun W Bs (hW:Below w.heap.size w W) (hb:Blk W Bs (C9 s p q cap vc) 190)=>Sc s p q cap vc W Bs hs (h.below hW) hb)
 unfold C9 at c2⊢
 go_enter Tryz.func128,Tryz.ntmps128
 go_wp2_with fail
 refine(points_w _ _ _ _ _ _ _ _ _ _ _ _ _).mono ?_
 rintro e w2 ⟨rfl,rfl⟩
 go_wp2_with fail
 refine(c2.out _ _ (Aa) (Blk.new' (by simp))).mono ?_
 rintro e w3 ⟨v,rfl,hv,hB⟩
 replace hv:=Hd hv
 have hBB:Hid (Below w.heap.size w w3):=Hd (Aa)
 clear hB
 go_wp2
 refine bodyPost_ret (v:= .tuple #[v,.int .i64 0]) (by simp[results,Tryz.results128,go_sem]) rfl ⟨v,rfl,Ka hv.out (by simp<;>omega),hBB.out⟩
end Go.Proofs.YtdeghcgakkhbmaaGreat
namespace Go.Proofs.YtdeghcgakkhbmaaGreat
open Go.RowKit
theorem ofp_yes (K A R n d E:Int) (p q:Option Addr) (len cap m vc:Nat) (w:World) (s:Aw)
  (c1:∀W,Below w.heap.size w W->Cb 158 #[.agg #[K,.slice p len cap,A,R,n,d,.slice q m vc,E]] W (.bool true))
  (c3:∀W,Below w.heap.size w W->Calls Tryz.prog 128 #[.agg #[K,.slice p len cap,A,R,n,d,.slice q m vc,E]] W fun e w'=>∃v,e= .returned (.tuple #[v,.int .i64 0])/\Sy s W.heap.size v w'/\Below W.heap.size W w'):
  Calls Tryz.prog 127 #[.agg #[K,.slice p len cap,A,R,n,d,.slice q m vc,E],.func (.func 128) #[] #[]] w fun e w'=>∃v,e= .returned (.tuple #[v,.int .i64 0])/\Sy s w.heap.size v w'/\Below w.heap.size w w':=by
 have H_c1:=Hd c1
 clear c1
 have H_c3:=Hd c3
 clear c3
 go_enter Tryz.func127,Tryz.ntmps127
 go_upto_region 1 with(fail)
 refine Ab w (Bc w.heap.size #[K,.slice p len cap,A,R,n,d,.slice q m vc,E] 135<|Bz) ?_
 rintro W1 hW z2 ⟨⟨b1,yb1,k1,f1⟩,-⟩
 go_wp2_with fail
 refine(H_c1.out _ (Aa)).mono ?_
 rintro e w3 ⟨rfl,hb3⟩
 have z4:=hb3.size
 try simp at z4
 clear k1 f1
 refine Aj w w3 (Bc w.heap.size #[K,.slice p len cap,A,R,n,d,.slice q m vc,E] 135<|Bz) ?_
 clear b1 hW
 rintro hW z5 ⟨⟨b1,yb1,k1,f1⟩,-⟩
 clear hb3
 go_wp2_with fail
 refine(H_c3.out _ (Aa)).mono ?_
 rintro e w6 ⟨v,rfl,hv,hb6⟩
 have z7:=hb6.size
 try simp at z7
 clear k1 f1
 refine Aj w w6 (Bc w.heap.size #[K,.slice p len cap,A,R,n,d,.slice q m vc,E] 135<|Bz) ?_
 clear b1 hW
 rintro hW z8 ⟨⟨b1,yb1,k1,f1⟩,-⟩
 replace hv:=Hd hv
 go_wp2
 refine bodyPost_ret (v:= .tuple #[v,.int .i64 0]) (by simp[results,Tryz.results127,go_sem]) rfl ⟨v,rfl,Ka hv.out (by omega),Aa⟩
theorem points_yes (K A R n d E:Int) (p q:Option Addr) (len cap m vc:Nat) (w:World) (s:Aw)
  (c1:∀W,Below w.heap.size w W->Calls Tryz.prog 127 #[.agg #[K,.slice p len cap,A,R,n,d,.slice q m vc,E],.func (.func 128) #[] #[]] W fun e w'=>∃v,e= .returned (.tuple #[v,.int .i64 0])/\Sy s W.heap.size v w'/\Below W.heap.size W w'):
  Calls Tryz.prog 80 #[.agg #[K,.slice p len cap,A,R,n,d,.slice q m vc,E]] w fun e w'=>∃v,e= .returned (.tuple #[v,.int .i64 0])/\Sy s w.heap.size v w'/\Below w.heap.size w w':=by
 have H_c1:=Hd c1
 clear c1
 go_enter Tryz.func80,Tryz.ntmps80
 go_upto_region 1 with(fail)
 refine Ab w (Bc w.heap.size #[K,.slice p len cap,A,R,n,d,.slice q m vc,E] 135<|Bz) ?_
 rintro W1 hW z2 ⟨⟨b1,yb1,k1,f1⟩,-⟩
 go_wp2_with fail
 refine(H_c1.out _ (Aa)).mono ?_
 rintro e w3 ⟨v,rfl,hv,hb3⟩
 have z4:=hb3.size
 try simp at z4
 clear k1 f1
 refine Aj w w3 (Bc w.heap.size #[K,.slice p len cap,A,R,n,d,.slice q m vc,E] 135<|Bz) ?_
 clear b1 hW
 rintro hW z5 ⟨⟨b1,yb1,k1,f1⟩,-⟩
 replace hv:=Hd hv
 go_wp2
 refine bodyPost_ret (v:= .tuple #[v,.int .i64 0]) (by simp[results,Tryz.results80,go_sem]) rfl ⟨v,rfl,Ka hv.out (by omega),Aa⟩
theorem c_Points (s:Aw) (p q:Option Addr) (cap vc:Nat) (w:World) (h:C0 w s p q) (hs:Cr s=true):
  Calls Tryz.prog 80 #[.agg (C9 s p q cap vc)] w fun e w'=>∃v,e= .returned (.tuple #[v,.int .i64 0])/\Sy s w.heap.size v w'/\Below w.heap.size w w':=by
 refine points_yes _ _ _ _ _ _ p q _ cap _ vc w s fun W hW=>ofp_yes _ _ _ _ _ _ p q _ cap _ vc W s (fun W' hW'=> ?_) (fun W' hW'=>c_Points1 s p q cap vc W' hs ((h.below hW).below hW'))
 have:=Xb s p q cap vc W' ((h.below hW).below hW')
 rw[hs] at this
 exact this
structure Ar (w:World) (p:Option Addr) (l:List (Int×Int)):Prop where
 at':∀(i:Nat) (x:Int×Int),l[i]? =some x->∃b o,p=some ⟨b,o,none⟩/\w.cell? ⟨b,o+i*2,none⟩=some (x.1)/\w.cell? ⟨b,o+i*2+1,none⟩=some (x.2)
theorem Ar.below {w w':World} {p:Option Addr} {l:List (Int×Int)} (h:Ar w p l) (hb:Below w.heap.size w w'):Ar w' p l:=⟨fun i r hr=>by
 obtain⟨b,o,e,h1,h2⟩:=h.at' i r hr
 exact⟨b,o,e,(hb.cell (p:=⟨b,_,none⟩) (Ap h1)).trans h1,(hb.cell (p:=⟨b,_,none⟩) (Ap h1)).trans h2⟩⟩
theorem Ar.alloc {w:World} {p:Option Addr} {l:List (Int×Int)} (h:Ar w p l) (o:Obj):Ar (w.alloc o) p l:=h.below ((Below.refl _ _).alloc (Nat.le_refl _) o)
theorem Ar.calls {w w':World} {p:Option Addr} {l:List (Int×Int)} (h:Ar w p l) (hb:Below w.heap.size w w'):Ar w' p l:=h.below hb
theorem Ar.set' {w:World} {p:Option Addr} {o i:Nat} {v:Value} {l:List (Int×Int)} (h:Ar w p l) (hne:∀a,p=some a->a.block≠o):Ar (w.setCell ⟨o,i,none⟩ v) p l:=⟨fun k r hr=>by
 obtain⟨b,y,e,h1,h2⟩:=h.at' k r hr
 have hc:∀z,(w.setCell ⟨o,i,none⟩ v).cell? ⟨b,z,none⟩=w.cell? ⟨b,z,none⟩:=by
  intro z
  have:=heap_setCell_other w ⟨o,i,none⟩ b v (hne _ e)
  simp only[World.cell?,this]
 exact⟨b,y,e,(hc _).trans h1,(hc _).trans h2⟩⟩
theorem Ar.set {w:World} {g x o i:Nat} {v:Value} {l:List (Int×Int)} (h:Ar w (some ⟨g,x,none⟩) l) (hne:g≠o):Ar (w.setCell ⟨o,i,none⟩ v) (some ⟨g,x,none⟩) l:=h.set' fun a e=>by cases e;exact hne
theorem Ar.drew {w:World} {p:Option Addr} {l:List (Int×Int)} (h:Ar w p l):Ar w.drew p l:=⟨h.at'⟩
theorem Ar.rex {L:List Nat} {w w':World} {p:Option Addr} {l:List (Int×Int)} (h:Ar w p l) (hr:Rex L w w') (hL:L= []):Ar w' p l:=by subst hL;exact h.below hr.below
theorem R9 :∀(l:List (Int×Int)) (i:Nat) (x:Int×Int),l[i]? =some x->(Ax l)[i*2]? =some (x.1)/\(Ax l)[i*2+1]? =some (x.2)
 | [],i,x,h=>by simp at h
 |y::l,0,x,h=>by
  simp at h
  subst h
  exact⟨rfl,rfl⟩
 |y::l,i+1,x,h=>by
  obtain⟨a,b⟩:=R9 l i x (by simpa using h)
  have e:Ax (y::l)= .int .i64 y.1:: .int .i64 y.2::Ax l:=rfl
  rw[e,show (i+1)*2=i*2+1+1 by omega]
  exact⟨by simpa using a,by simpa using b⟩
theorem pts_is {s:Aw} {B:Nat} {v:Value} {w:World} (h:Sy s B v w) (hn:0<(B9 s).length):∃g cap cur,v= .slice (some ⟨g,0,none⟩) (B9 s).length cap/\B<=g/\(B9 s).length<=cap/\cap<=maxLen/\Blk w g cur 58/\cur.size=cap*2/\cur.toList.take ((B9 s).length*2)=Ax (B9 s):=by
 obtain⟨_,h2|⟨g,cap,cur,e,hg,hb,hnc,hm,hc,htk⟩⟩:=h
 ·omega
 ·exact⟨g,cap,cur,e,hg,hnc,hm,hb,hc,htk⟩
theorem Pd {w:World} {g n:Nat} {t:TypeId} {cur:Array Value} {l:List (Int×Int)} (hb:Blk w g cur t) (ht:cur.toList.take n=Ax l):Ar w (some ⟨g,0,none⟩) l:=⟨fun i x hx=>by
 obtain⟨a,b⟩:=R9 l i x hx
 refine⟨g,0,rfl,?_,?_⟩
 ·rw[hb.cell,Nat.zero_add];exact Eh ht a
 ·rw[hb.cell,Nat.zero_add];exact Eh ht b⟩
def Gf (a b:Int) (x:Int×Int):Bool:=decide (a<=x.1)&&decide (x.1<=b)
def selL (a b:Int) (l:List (Int×Int)):List Int:=(l.filter (Gf a b)).map (·.2)
theorem map_pts {s:Aw} (hs:Cr s=true):(B9 s).map (·.2)=Jo s:=by
 have h1:=Bk (Bp hs)
 have h2:=Je hs
 unfold B9
 rw[List.map_snd_zip]
 omega
structure A8 where
 name:ByteArray
 eps:Int
 floor:Int
 last:Int
 scale:Int
 segs:List Aw
 opn:List (Int×Int)
def Ea (r:Nat):Bool:=decide (97<=r/\r<=122)||decide (48<=r/\r<=57)
def Cv (s:ByteArray):Nat->Nat->Bool
 |0,_=>true
 |f+1,pos=>if pos<s.size then Ea (Utf8.decode s pos).1&&Cv s f (pos+(Utf8.decode s pos).2) else true
def Fq (s:ByteArray):Bool:=decide (1<=s.size/\s.size<=12)&&Cv s s.size 0
def Cd (s:A8):List Int:=s.segs.flatMap (fun x=>Ae x.runs)++s.opn.map (·.1)
def btw (n lo hi:Int):Bool:=decide (lo<=n)&&decide (n<=hi)
def Le (s:A8):Bool:=Fq s.name&&(btw s.eps 0 1099511627776&&(btw s.scale (-40) 40&&(btw s.floor 0 281474976710656&&btw s.last (-1) 281474976710656)))
def Es:Int->List Aw->Bool
 |_,[]=>true
 |b,x::l=>Cr x&&(decide (b<Bv x.runs)&&Es (C8 x.runs) l)
def Jl (eps floor:Int) (x:Aw):Bool:=decide (x.E<=eps)&&decide (floor<=C8 x.runs)
def Gl (floor:Int) (p:Int×Int):Bool:=btw p.1 floor 281474976710656&&btw p.2 (-2305843009213693952) 2305843009213693952
def Er:Int->List Int->Bool
 |_,[]=>true
 |b,t::l=>decide (b<t)&&Er t l
def Cs:Int->List Int->Int
 |b,[]=>b
 |_,t::l=>Cs t l
def Ht (s:A8):Nat:=((Cd s).filter fun t=>decide (s.floor<=t)).length
def Ob (s:A8):Bool:=decide (Cs (-1) (Cd s)<0)||(s.last==Cs (-1) (Cd s))
def B8 (s:A8):Bool:=Le s&&(Es (-1) s.segs&&(decide (s.opn.length<32)&&(s.segs.all (Jl s.eps s.floor)&&(s.opn.all (Gl s.floor)&&(Er (-1) (Cd s)&&(Ob s&&decide (Ht s<=1024)))))))
def F6 (s:A8):Int:=if B8 s=true then 0 else 340
theorem Uj :∀(l:List Aw) (b:Int) (x:Aw),Es b (l++ [x])=(Es b l&&(Cr x&&decide ((l.getLast?.map fun y=>C8 y.runs).getD b<Bv x.runs)))
 | [],b,x=>by simp[Es]<;>rfl
 |y::l,b,x=>by
  simp only[List.cons_append,Es]
  rw[Uj l]
  cases l with
  |nil=>simp[Bool.and_assoc]<;>rfl
  |cons z l=>simp[Bool.and_assoc,List.getLast?_cons]<;>rfl
theorem K9 :∀ {l:List Aw} {b:Int},Es b l=true->∀x,x∈l->Cr x=true
 | [],_,_,x,h=>by simp at h
 |y::l,b,hr,x,h=>by
  simp only[Es,Bool.and_eq_true] at hr
  simp only[List.mem_cons] at h
  rcases h with rfl|h
  ·exact hr.1
  ·exact K9 hr.2.2 x h
theorem Mz :∀(l:List Int) (b t:Int),Er b (l++ [t])=(Er b l&&decide (Cs b l<t))
 | [],b,t=>by simp[Er,Cs]<;>rfl
 |y::l,b,t=>by simp only[List.cons_append,Er,Cs];rw[Mz l,Bool.and_assoc]<;>rfl
theorem El :∀(l:List Int) (b t:Int),Cs b (l++ [t])=t
 | [],_,_=>rfl
 |_::l,_,_=>by simp only[List.cons_append,Cs];exact El l _ _
theorem Nx {pre l:List Int} (h:pre<+:l) (b:Int) (hf:Er b pre=false):Er b l=false:=by
 obtain⟨t,rfl⟩:=h
 induction pre generalizing b with
 |nil=>simp[Er] at hf
 |cons y l ih=>
  simp only[List.cons_append,Er] at hf⊢
  cases hd:decide (b<y) with
  |false=>rfl
  |true=>rw[hd] at hf;simp only[Bool.true_and] at hf⊢;exact ih _ hf
def Nv (a b:Int) (x:Aw):List (Int×Int×Int):=((B9 x).filter (Gf a b)).map fun p=>(p.1,p.2,x.E)
def opnBk (a b:Int) (l:List (Int×Int)):List (Int×Int×Int):=(l.filter (Gf a b)).map fun p=>(p.1,p.2,0)
def Ef (s:A8) (a b:Int):List (Int×Int×Int):=s.segs.flatMap (Nv (mx a s.floor) b)++opnBk (mx a s.floor) b s.opn
def Ue (a b:Int) (x:Aw):List (List Int×Int):=if selL a b (B9 x)= [] then [] else [(selL a b (B9 x),x.E)]
def Up (a b:Int) (l:List (Int×Int)):List (List Int×Int):=(l.filter (Gf a b)).map fun p=>([p.2],0)
def Wb (s:A8) (a b:Int):List (List Int×Int):=s.segs.flatMap (Ue (mx a s.floor) b)++Up (mx a s.floor) b s.opn
def pairs (g:List Int×Int):List (Int×Int):=g.1.map fun v=>(v,g.2)
theorem segPc_told (a b:Int) (x:Aw):(Ue a b x).flatMap pairs=(Nv a b x).map (·.2):=by
 unfold Ue Nv
 have e:(selL a b (B9 x)).map (fun v=>(v,x.E))=(((B9 x).filter (Gf a b)).map fun p=>(p.1,p.2,x.E)).map (·.2):=by
  unfold selL
  simp[List.map_map,Function.comp_def]
 split
 ·rename_i h
  rw[<-e,h];rfl
 ·simp[pairs,<-e]
theorem opnPc_told (a b:Int) (l:List (Int×Int)):(Up a b l).flatMap pairs=(opnBk a b l).map (·.2):=by
 unfold Up opnBk
 induction l.filter (Gf a b) with
 |nil=>rfl
 |cons x l ih=>simp only[List.map_cons,List.flatMap_cons,ih];rfl
theorem pcs_told (s:A8) (a b:Int):(Wb s a b).flatMap pairs=(Ef s a b).map (·.2):=by
 unfold Wb Ef
 rw[List.flatMap_append,List.map_append,opnPc_told]
 congr 1
 induction s.segs with
 |nil=>rfl
 |cons x l ih=>simp only[List.flatMap_cons,List.flatMap_append,List.map_append,ih,segPc_told]
def loL (l:List (Int×Int)):List Int:=l.map fun x=>x.1-x.2
def hiL (l:List (Int×Int)):List Int:=l.map fun x=>x.1+x.2
def shA (l:List (Int×Int)):Array Value:= #[.int .i64 l.length,.int .i64 (Yy (loL l)),.int .i64 (Yy (hiL l)),.int .i64 (Y0 (loL l)),.int .i64 (Y0 (hiL l)),.int .i64 (hiW (He (loL l))),.int .u64 (loW (He (loL l))),.int .i64 (hiW (He (hiL l))),.int .u64 (loW (He (hiL l)))]
def wholeL (s:A8) (a b:Int):List (Int×Int):=(Ef s a b).map (·.2)
def wholeE (s:A8) (a b:Int):Int:=if B8 s=true then (if Ef s a b= [] then 9 else 0) else 340
def wholeV (s:A8) (a b:Int):List (Int×Int):=if B8 s=true then wholeL s a b else []
def l0:List Ah:= [⟨10,2,4⟩]
def s0:Aw:=⟨2,l0,5,0,1,2,[],3⟩

def TyP (w:World) (p:Option Addr) (T:TypeId):Prop:=∀a,p=some a->∃cur fz,w.heap[a.block]? =some (.cells cur T fz)
theorem TyP.below {w w':World} {p:Option Addr} {T:TypeId} (h:TyP w p T) (hb:Below w.heap.size w w'):TyP w' p T:=fun a e=>by
 obtain⟨cur,fz,hh⟩:=h a e
 exact⟨cur,fz,(hb.block a.block (Array.getElem?_eq_some_iff.1 hh).1).trans hh⟩
theorem TyP.alloc {w:World} {p:Option Addr} {T:TypeId} (h:TyP w p T) (o:Obj):TyP (w.alloc o) p T:=h.below ((Below.refl _ _).alloc (Nat.le_refl _) o)
theorem TyP.setCell {w:World} {p:Option Addr} {T:TypeId} (h:TyP w p T) (a:Addr) (v:Value):TyP (w.setCell a v) p T:=fun b e=>by
 obtain⟨cur,fz,hh⟩:=h b e
 by_cases hb:b.block=a.block
 ·refine⟨if a.spot.isSome then cur else cur.setIfInBounds a.off v,fz,?_⟩
  simp only[World.setCell,Array.getElem?_modify]
  rw[if_pos hb.symm,hh];rfl
 ·exact⟨cur,fz,(heap_setCell_other w a b.block v hb).trans hh⟩
theorem TyP.new {w:World} {cs:Array Value} {T:TypeId} {g:Nat} (h:w.heap.size=g):TyP (w.alloc (.cells cs T)) (some ⟨g,0,none⟩) T:=fun a e=>by
 subst h
 cases e
 exact⟨cs,(0,0),heap_alloc_new w _⟩
theorem Al.take {w:World} {p:Option Addr} {l:List Ah} (h:Al w p l) (k:Nat):Al w p (l.take k):=⟨fun i r hr=>h.at' i r (by
 rw[List.getElem?_take] at hr
 split at hr
 ·exact hr
 ·cases hr)⟩
theorem A3.take {w:World} {p:Option Addr} {l:List Int} (h:A3 w p l) (k:Nat):A3 w p (l.take k):=⟨fun i r hr=>h.at' i r (by
 rw[List.getElem?_take] at hr
 split at hr
 ·exact hr
 ·cases hr)⟩
structure Came (w:World) (s:Aw) (p q:Option Addr) (cap vc:Nat):Prop where
 runs:Al w p s.runs
 raw:A3 w q s.raw
 nilR:p=none->s.runs= []/\cap=0
 nilV:q=none->s.raw= []/\vc=0
 capR:s.runs.length<=cap
 capV:s.raw.length<=vc
 maxR:s.runs.length<=9223372036854775807
 maxV:s.raw.length<=9223372036854775807
def ownS (s:Aw):Aw:=⟨s.K,s.runs.take 300,s.A,s.R,s.n,s.d,s.raw.take 300,s.E⟩
def OwnOut (s:Aw) (w:World) (e:Ending) (w':World):Prop:=∃p' cap' q' vc',e= .returned (.agg (C9 (ownS s) p' q' cap' vc'))/\Below w.heap.size w w'/\C0 w' (ownS s) p' q'/\(ownS s).raw.length<=vc'
def OwnOutT (s:Aw) (w:World) (e:Ending) (w':World):Prop:=∃p' cap' q' vc',e= .returned (.agg (C9 (ownS s) p' q' cap' vc'))/\Below w.heap.size w w'/\C0 w' (ownS s) p' q'/\(ownS s).raw.length<=vc'/\TyP w' p' 141/\TyP w' q' 2
structure Qh (w:World) (s:Aw) (p q:Option Addr):Prop where
 seg:C0 w s p q
theorem Qh.below {w w':World} {s:Aw} {p q:Option Addr} (h:Qh w s p q) (hb:Below w.heap.size w w'):Qh w' s p q:=⟨h.seg.below hb⟩
theorem Qh.alloc {w:World} {s:Aw} {p q:Option Addr} (h:Qh w s p q) (o:Obj):Qh (w.alloc o) s p q:=h.below ((Below.refl _ _).alloc (Nat.le_refl _) o)
theorem Qh.rex {L:List Nat} {w w':World} {s:Aw} {p q:Option Addr} (h:Qh w s p q) (hr:Rex L w w') (hL:L= []):Qh w' s p q:=by subst hL;exact h.below hr.below
theorem Qh.drew {w:World} {s:Aw} {p q:Option Addr} (h:Qh w s p q):Qh w.drew s p q:=⟨⟨⟨h.seg.runs.at'⟩,⟨h.seg.raw.at'⟩,h.seg.fewR,h.seg.fewV⟩⟩
structure Ja (w:World) (b o:Nat) (l:List (Int×Int)):Prop where
 pts:Ar w (some ⟨b,o,none⟩) l
theorem Ja.below {w w':World} {b o:Nat} {l:List (Int×Int)} (h:Ja w b o l) (hb:Below w.heap.size w w'):Ja w' b o l:=⟨h.pts.below hb⟩
theorem Ja.rex {L:List Nat} {w w':World} {b o:Nat} {l:List (Int×Int)} (h:Ja w b o l) (hr:Rex L w w') (hL:L= []):Ja w' b o l:=by subst hL;exact h.below hr.below
theorem Ja.drew {w:World} {b o:Nat} {l:List (Int×Int)} (h:Ja w b o l):Ja w.drew b o l:=⟨⟨h.pts.at'⟩⟩
theorem Ja.cellAt {w:World} {b o:Nat} {l:List (Int×Int)} (h:Ja w b o l) {i:Nat} {x:Int×Int} (hx:l[i]? =some x):w.cell? ⟨b,o+i*2,none⟩=some (x.1)/\w.cell? ⟨b,o+i*2+1,none⟩=some (x.2):=by
 obtain⟨b',o',e,h1,h2⟩:=h.pts.at' i x hx
 cases e
 exact⟨h1,h2⟩
def spE (a b:Int):Int:=if a<=b then 0 else 140
def spsE (l:List (Int×Int)):Int:=if l.all (fun x=>decide (x.1<=x.2))=true then 0 else 140
def spcRel (w:World) (p:Option Addr) (cap:Nat) (l:List (Int×Int)) (a':Act) (W:World):Prop:=
 Below w.heap.size w W/\∃i:Nat,(∃u:Nat->Value,a'= {tmps:= #[.slice p l.length cap,u 1,u 2,u 3,u 4,u 5,.slice p l.length cap,.int .i64 (l.length:Int),.int .i64 (i:Int),u 9,u 10,u 11,u 12,u 13,u 14,u 15,u 16,u 17],defers:= []})/\i<=l.length/\∀k x,k<i->l[k]? =some x->x.1<=x.2
theorem J9 (j k:Nat) (h:j<k):(2:Nat)^j<2^k:=Nat.pow_lt_pow_right (by omega) h
theorem C1 {a:Nat} (j k:Nat) (h:a<2^j) (hjk:j<=k):a<2^k:=Nat.lt_of_lt_of_le h (Nat.pow_le_pow_right (by omega) hjk)
theorem T0 {a:Nat} (j k:Nat) (h:a<2^j) (hjk:j+1<=k):2*a<2^k:=
 Nat.lt_of_lt_of_le (Nat.mul_lt_mul_of_pos_left h (by omega)) (by rw[<-Nat.pow_succ'];exact Nat.pow_le_pow_right (by omega) hjk)
def Aq:List Int->Nat
 | []=>0
 |d::l=>d.toNat+2*Aq l
def Dig (l:List Int):Prop:=∀d,d∈l->d=0∨d=1
def G3 (l:List Int):Prop:=l= []∨2^(l.length-1)<=Aq l
theorem Dig.nil :Dig []:=fun d h=>by simp at h
theorem Dig.snoc {l:List Int} {d:Int} (h:Dig l) (hd:d=0∨d=1):Dig (l++ [d]):=fun x hx=>by
 rcases List.mem_append.1 hx with h1|h1
 ·exact h x h1
 ·simp at h1;subst h1;exact hd
theorem Dig.cons {l:List Int} {d:Int} (h:Dig l) (hd:d=0∨d=1):Dig (d::l):=fun x hx=>by
 rcases List.mem_cons.1 hx with h1|h1
 ·subst h1;exact hd
 ·exact h x h1
theorem Dig.take {l:List Int} (h:Dig l) (k:Nat):Dig (l.take k):=fun x hx=>h x (List.mem_of_mem_take hx)
theorem Dig.drop {l:List Int} (h:Dig l) (k:Nat):Dig (l.drop k):=fun x hx=>h x (List.mem_of_mem_drop hx)
theorem Dig.at {l:List Int} (h:Dig l) {k:Nat} {d:Int} (hk:l[k]? =some d):d=0∨d=1:=h d (List.mem_of_getElem? hk)
theorem K4 :∀(a b:List Int),Aq (a++b)=Aq a+2^a.length*Aq b
 | [],b=>by simp[Aq]
 |d::a,b=>by
  simp only[List.cons_append,Aq,List.length_cons,K4 a b]
  rw[Nat.pow_succ,Nat.mul_add,Nat.mul_comm (2^a.length) 2,Nat.mul_assoc]
  omega
theorem De (a:List Int) (d:Int):Aq (a++ [d])=Aq a+2^a.length*d.toNat:=by rw[K4];simp[Aq]
theorem Ep {l:List Int} {k:Nat} {d:Int} (hk:l[k]? =some d):Aq (l.take (k+1))=Aq (l.take k)+2^k*d.toNat:=by
 have hlt:=(List.getElem?_eq_some_iff.1 hk).1
 rw[List.take_add_one,hk]
 show Aq (l.take k++ [d])=_
 rw[De,List.length_take,Nat.min_eq_left (by omega)]
theorem Np :∀(l:List Int),Dig l->Aq l<2^l.length
 | [],_=>by simp[Aq]
 |d::l,h=>by
  have ih:=Np l fun x hx=>h x (by simp[hx])
  have hd:=h d (by simp)
  simp only[Aq,List.length_cons,Nat.pow_succ]
  rcases hd with rfl|rfl<;>simp<;>omega
theorem Do (l:List Int) {k:Nat} (h:l.length<=k):Aq (l.take k)=Aq l:=by rw[List.take_of_length_le h]
theorem G3.nil :G3 []:= .inl rfl
theorem Hx (l:List Int):G3 (l++ [1]):= .inr (by rw[De];simp)
theorem Me {l:List Int} (h:G3 l) (hl:l≠ []):2^(l.length-1)<=Aq l:=by
 rcases h with h|h
 ·exact absurd h hl
 ·exact h
theorem Ry {a b:List Int} (ha:Dig a) (hb:G3 b) (h:a.length<b.length):Aq a<Aq b:=by
 have h1:=Np a ha
 have h2:=Me hb (by rintro rfl;simp at h)
 have h3:2^a.length<=2^(b.length-1):=Nat.pow_le_pow_right (by omega) (by omega)
 omega
theorem Mu {l:List Int} {k:Nat} (hk:k<=l.length):Aq l=Aq (l.take k)+2^k*Aq (l.drop k):=by
 conv=>lhs;rw[<-List.take_append_drop k l]
 rw[K4,List.length_take,Nat.min_eq_left hk]
theorem less_at {a b:List Int} (ha:Dig a) (hb:Dig b) (hl:a.length=b.length) {k:Nat} {x y:Int} (hx:a[k]? =some x) (hy:b[k]? =some y) (hd:a.drop (k+1)=b.drop (k+1)) (h:x<y):Aq a<Aq b:=by
 have hk:=(List.getElem?_eq_some_iff.1 hx).1
 have e1:=Mu (l:=a) (k:=k+1) (by omega)
 have e2:=Mu (l:=b) (k:=k+1) (by omega)
 rw[hd] at e1
 have t1:=Ep hx
 have t2:=Ep hy
 have b1:=Np (a.take k) (ha.take k)
 rw[List.length_take,Nat.min_eq_left (by omega)] at b1
 have dx:=ha.at hx
 have dy:=hb.at hy
 have x0:x=0:=by omega
 have y1:y=1:=by omega
 subst x0;subst y1
 simp at t1 t2
 omega
structure Ci (w:World) (p:Option Addr) (l:List Int):Prop where
 at':∀(i:Nat) (x:Int),l[i]? =some x->∃b o,p=some ⟨b,o,none⟩/\w.cell? ⟨b,o+i,none⟩=some (x)
 typ:∀a,p=some a->∃cur fz,w.heap[a.block]? =some (.cells cur 3 fz)
theorem Ci.below {w w':World} {p:Option Addr} {l:List Int} (h:Ci w p l) (hb:Below w.heap.size w w'):Ci w' p l:=
 ⟨((⟨h.at'⟩:A3 w p l).below hb).at',fun a e=>by
  obtain⟨cur,fz,hh⟩:=h.typ a e
  exact⟨cur,fz,(hb.block a.block (Array.getElem?_eq_some_iff.1 hh).1).trans hh⟩⟩
theorem Ci.take {w:World} {p:Option Addr} {l:List Int} (h:Ci w p l) (k:Nat):Ci w p (l.take k):=⟨fun i r hr=>h.at' i r (by
 rw[List.getElem?_take] at hr
 split at hr
 ·exact hr
 ·cases hr),h.typ⟩
theorem Nc {w:World} {g k:Nat} {cur:Array Value} {l:List Int} (hb:w.heap[g]? =some (.cells cur 3 (0,0))) (ht:cur.toList.take k=l.map (Value.int .i64)):Ci w (some ⟨g,0,none⟩) l:=
 ⟨(Lp hb ht).at',fun a e=>by cases e;exact⟨cur,(0,0),hb⟩⟩
def Av (w:World) (v:Value) (n:Nat):Prop:=∃p l cap,v= .slice p l.length cap/\l.length<=cap/\l.length<=1000/\(p=none->l= []/\cap=0)/\Ci w p l/\Dig l/\G3 l/\Aq l=n
theorem Av.below {w w':World} {v:Value} {n:Nat} (h:Av w v n) (hb:Below w.heap.size w w'):Av w' v n:=by
 obtain⟨p,l,cap,h1,h2,h3,h4,h5,h6⟩:=h
 exact⟨p,l,cap,h1,h2,h3,h4,h5.below hb,h6⟩
theorem Av.rex {L:List Nat} {w w':World} {v:Value} {n:Nat} (h:Av w v n) (hr:Rex L w w') (hL:L= []):Av w' v n:=by subst hL;exact h.below hr.below
theorem Av.drew {w:World} {v:Value} {n:Nat} (h:Av w v n):Av w.drew v n:=by
 obtain⟨p,l,cap,h1,h2,h3,h4,h5,h6⟩:=h
 exact⟨p,l,cap,h1,h2,h3,h4,⟨h5.at',h5.typ⟩,h6⟩
theorem Av.zero (w:World):Av w (.slice none 0 0) 0:=⟨none,[],0,rfl,by simp,by simp,fun _=>⟨rfl,rfl⟩,⟨fun i x h=>by simp at h,fun a e=>by cases e⟩,Dig.nil,G3.nil,rfl⟩
theorem Ss {w:World} {base n:Nat} {v:Value} {l:List Int} (h:w.ownsRow base 3 1 v n (l.map (Value.int .i64))) (hn:n=l.length) (hl:l.length<=1000) (h1:Dig l) (h2:G3 l):Av w v (Aq l):=by
 subst hn
 obtain⟨_,h2'|⟨g,cap',cur,rfl,hg,hb,hn,_,hc,ht⟩⟩:=h
 ·obtain⟨rfl,h0⟩:=h2'
  have:l= []:=List.length_eq_zero_iff.1 h0
  subst this
  exact Av.zero w
 ·exact⟨some ⟨g,0,none⟩,l,cap',rfl,by simpa using hn,hl,(fun e=>by cases e),Nc hb (by simpa using ht),h1,h2,rfl⟩
theorem Tryz.infoI :(Tryz.prog.info? 3).map (fun i=>(i.zero,i.size,i.bytes))=some (some (.int .i64 0),1,8):=by kernel_rfl
theorem A7 {w0 W w1:World} {B:Nat} {e:TypeId} {s k:Nat} {v:Value} {xs:List Value} {tmp:Obj} (hW:Below B w0 W) (hB:B<=W.heap.size) (hrow:W.ownsRow B e s v k xs) (hgr:(W.alloc tmp).grownBy w1 v.ownBlock):Below B w0 w1:=by
 refine(hW.alloc hB tmp).grown hgr (by simp;omega) fun j ej=> ?_
 rcases hrow.2 with⟨rfl,_⟩|⟨g,cap,cur,rfl,hb,_,_⟩
 ·simp[Value.ownBlock] at ej
 ·obtain rfl:g=j:=by simpa [Value.ownBlock] using ej
  exact hb
def Vs (u0:Nat) (w:World) (a':Act) (W:World):Prop:=
 Below w.heap.size w W/\∃(l:List Int) (u:Nat) (v:Value),(∃x:Nat->Value,a'= {tmps:= #[.int .u64 (u:Int),x 1,x 2,v,x 4,x 5,x 6,x 7,x 8,x 9,x 10,x 11,x 12,x 13,x 14],defers:= []})/\
  W.ownsRow w.heap.size 3 1 v l.length (l.map (Value.int .i64))/\Dig l/\Aq l+2^l.length*u=u0/\l.length<=64/\u<2^(64-l.length)/\(u=0->G3 l)
theorem c_Size (u0:Nat) (w:World) (h0:u0<18446744073709551616):
  Calls Tryz.prog 109 #[.int .u64 (u0:Int)] w fun e w'=>∃v,e= .returned v/\Av w' v u0/\Below w.heap.size w w':=by
 obtain⟨i0,hi,hz0,hz1,hz2⟩:=info_parts Tryz.infoI
 go_enter Tryz.func109,Tryz.ntmps109
 go_wp2
 refine wp_loop (Vs u0 w) (fun a' _=>(Ag (a'.tmps.getD 0 undef)).toNat) ?_ ?_
 ·unfold Vs
  exact⟨Below.refl _ _,[],u0,_,Ac rfl,World.ownsRow_nil _ _ _ _,Dig.nil,by simp[Aq],by simp,by simpa using h0,fun _=>G3.nil⟩
 ·rintro a' W ⟨hW,l,u,v,⟨x,rfl⟩,hown,hd,hv,hl,hu,hcn⟩
  have hz:=hW.size
  replace hv:=Hd hv
  replace hu:=Hd hu
  replace hcn:=Hd hcn
  by_cases h:u=0
  ·subst h
   have hC:=Hd (hcn.out rfl)
   have hn:=Hd (show Aq l=u0 by have:=hv.out;omega)
   clear hcn hv hu
   go_wp2
   go_ret
   exact⟨v,rfl,hn.out▸Ss hown rfl (by omega) hd hC.out,hW⟩
  ·have hpos:0<u:=by omega
   have hp:0<(u:Int):=by omega
   have hlt:l.length<64:=by
    have:=hu.out
    rcases Nat.lt_or_ge l.length 64 with h1|h1
    ·exact h1
    ·have:64-l.length=0:=by omega
     rw[this] at hu
     have:=hu.out
     simp at this
     omega
   have hu64:u<18446744073709551616:=by have:=hu.out;have:=Nat.pow_le_pow_right (n:=2) (by omega) (show 64-l.length<=64 by omega);omega
   go_wp2_with (at_builtin;refine wpList_append_own _ rfl (.tmp 6) (.tmp 10) 113 rfl w.heap.size 3 i0 (.int .i64 0) 1 8 (by kernel_rfl) hi hz0 hz1 hz2 rfl (by decide) _ _ _ rfl (hown.alloc _) ⟨W.heap.size,0,none⟩ 1 1 [.int .i64 (u%2:Int)] rfl rfl (cell_one_new _ _ _) (by simp[Value.oneCell']) (by simp[maxLen];omega) (by omega) (by simp;omega) ?_)
   intro v' w1 hown' hgr _
   have hB:=Hd (A7 hW hz hown hgr)
   replace hown':=Hd hown'
   clear hgr hown
   go_wp2
   rw[show (u:Int)/2=((u/2:Nat):Int) by omega]
   refine⟨?_,by simp[Ag];omega⟩
   unfold Vs
   have e2:((u:Int)%2).toNat=u%2:=by omega
   refine⟨hB.out,l++ [(u:Int)%2],u/2,v',Ac rfl,by simpa using hown'.out,hd.snoc (by omega),?_,by simp;omega,?_,fun h2=> ?_⟩
   ·have:=hv.out
    rw[De,e2,List.length_append,List.length_singleton,Nat.pow_succ,Nat.mul_assoc,Nat.add_assoc,<-Nat.mul_add,show u%2+2*(u/2)=u by omega]
    exact this
   ·have:=hu.out
    rw[List.length_append,List.length_singleton]
    have e:2^(64-l.length)=2*2^(64-(l.length+1)):=by rw[show 64-l.length=(64-(l.length+1))+1 by omega,Nat.pow_succ];omega
    omega
   ·have:u=1:=by omega
    subst this
    exact Hx l
theorem Nn :∀n:Nat,Aq (List.replicate n 0)=0
 |0=>rfl
 |n+1=>by simp[List.replicate_succ,Aq,Nn n]
theorem Zl (n:Nat):Dig (List.replicate n 0):=fun d h=> .inl (List.eq_of_mem_replicate h)
def powRel (n:Nat) (w:World) (a':Act) (W:World):Prop:=
 Below w.heap.size w W/\∃(k:Nat) (v:Value),(∃x:Nat->Value,a'= {tmps:= #[.int .i64 (n:Int),x 1,x 2,v,.int .i64 (k:Int),x 5,x 6,x 7,x 8,x 9,x 10,x 11,x 12,x 13,x 14,x 15],defers:= []})/\
  W.ownsRow w.heap.size 3 1 v k ((List.replicate k (0:Int)).map (Value.int .i64))/\k<=n
theorem Qu (n:Nat) (w:World) (hn:n<=900):
  Calls Tryz.prog 112 #[.int .i64 (n:Int)] w fun e w'=>∃v,e= .returned v/\Av w' v (2^n)/\Below w.heap.size w w':=by
 obtain⟨i0,hi,hz0,hz1,hz2⟩:=info_parts Tryz.infoI
 go_enter Tryz.func112,Tryz.ntmps112
 go_wp2
 refine wp_loop (powRel n w) (fun a' _=>n-(Ag (a'.tmps.getD 4 undef)).toNat) ?_ ?_
 ·unfold powRel
  exact⟨Below.refl _ _,0,_,Ac rfl,World.ownsRow_nil _ _ _ _,Nat.zero_le _⟩
 ·rintro a' W ⟨hW,k,v,⟨x,rfl⟩,hown,hk⟩
  have hz:=hW.size
  rcases Nat.lt_or_ge k n with hlt|hge
  ·go_wp2_with (at_builtin;refine wpList_append_own _ rfl (.tmp 10) (.tmp 11) 113 rfl w.heap.size 3 i0 (.int .i64 0) 1 8 (by kernel_rfl) hi hz0 hz1 hz2 rfl (by decide) _ _ _ rfl (hown.alloc _) ⟨W.heap.size,0,none⟩ 1 1 [.int .i64 0] rfl rfl (cell_one_new _ _ _) (by simp[Value.oneCell']) (by simp[maxLen];omega) (by omega) (by simp;omega) ?_)
   intro v' w1 hown' hgr _
   have hB:=Hd (A7 hW hz hown hgr)
   replace hown':=Hd hown'
   clear hgr hown
   go_wp2
   rw[show (k:Int)+1=((k+1:Nat):Int) by omega]
   refine⟨?_,by simp[Ag];omega⟩
   unfold powRel
   exact⟨hB.out,k+1,v',Ac rfl,by rw[List.replicate_succ',List.map_append,List.map_replicate];exact hown'.out,hlt⟩
  ·obtain rfl:k=n:=by omega
   go_wp2_with (at_builtin;refine wpList_append_own _ rfl (.tmp 13) (.tmp 14) 113 rfl w.heap.size 3 i0 (.int .i64 0) 1 8 (by kernel_rfl) hi hz0 hz1 hz2 rfl (by decide) _ _ _ rfl (hown.alloc _) ⟨W.heap.size,0,none⟩ 1 1 [.int .i64 1] rfl rfl (cell_one_new _ _ _) (by simp[Value.oneCell']) (by simp[maxLen];omega) (by omega) (by simp;omega) ?_)
   intro v' w1 hown' hgr _
   have hB:=Hd (A7 hW hz hown hgr)
   have hv:Aq (List.replicate k (0:Int)++ [1])=2^k:=by rw[De,Nn];simp
   have hb:Av w1 v' (Aq (List.replicate k (0:Int)++ [1])):=Ss (n:=k+1) (by rw[List.map_append,List.map_replicate];exact hown') (by simp) (by simp;omega) ((Zl k).snoc (.inr rfl)) (Hx _)
   rw[hv] at hb
   replace hb:=Hd hb
   clear hgr hown hown' hv
   go_wp2
   go_ret
   exact⟨v',rfl,hb.out,hB.out⟩
theorem Ci.taken {w:World} {p:Option Addr} {l:List Int} (h:Ci w p l) (k:Nat):Ci w p (l.take k):=h.take k
def Vm (w:World) (b o cap:Nat) (l:List Int) (a':Act) (W:World):Prop:=
 Below w.heap.size w W/\∃k:Nat,(∃u:Nat->Value,a'= {tmps:= #[.slice (some ⟨b,o,none⟩) l.length cap,u 1,u 2,.int .i64 (k:Int),u 4,u 5,u 6,u 7,u 8,u 9,u 10,u 11,u 12,u 13,u 14,u 15,u 16,u 17,u 18,u 19,u 20],defers:= []})/\k<=l.length/\Aq (l.take k)=Aq l
theorem trim_some (b o cap:Nat) (l:List Int) (w:World) (h:Ci w (some ⟨b,o,none⟩) l) (hc:l.length<=cap) (hcm:cap<=9223372036854775807) (hl:l.length<=1000) (hd:Dig l):
  Calls Tryz.prog 151 #[.slice (some ⟨b,o,none⟩) l.length cap] w fun e w'=>∃v,e= .returned v/\Av w' v (Aq l)/\Below w.heap.size w w':=by
 go_enter Tryz.func151,Tryz.ntmps151
 go_wp2
 refine wp_loop (Vm w b o cap l) (fun a' _=>(Ag (a'.tmps.getD 3 undef)).toNat) ?_ ?_
 ·unfold Vm
  exact⟨Below.refl _ _,l.length,Ac rfl,Nat.le_refl _,by rw[List.take_length]⟩
 ·rintro a' W ⟨hW,k,⟨u,rfl⟩,hk,hv⟩
  replace hv:=Hd hv
  rcases Nat.eq_zero_or_pos k with rfl|hpos
  ·go_wp2
   go_ret
   refine⟨_,rfl,⟨some ⟨b,o,none⟩,l.take 0,cap,by simp,by simp,by simp,(fun e=>by cases e),(h.below hW).taken 0,by simpa using Dig.nil,by simpa using G3.nil,hv.out⟩,hW⟩
  ·obtain⟨j,rfl⟩:∃j,k=j+1:=⟨k-1,by omega⟩
   obtain⟨d,hdj⟩:∃d,l[j]? =some d:=⟨l[j],List.getElem?_eq_getElem (by omega)⟩
   obtain⟨b',o',e,q0⟩:=(h.below hW).at' j d hdj
   cases e
   have e1:((j+1:Nat):Int)-1=(j:Int):=by omega
   have ht:=Hd (Ep hdj)
   have hdd:=hd.at hdj
   have hcan:=Hd (show d=1->G3 (l.take (j+1)) from fun e=>by rw[List.take_add_one,hdj,e];exact Hx _)
   clear hdj
   replace e1:=Hd e1
   rcases hdd with rfl|rfl
   ·go_wp2
    refine⟨?_,by simp[Ag]⟩
    unfold Vm
    exact⟨hW,j,Ac rfl,by omega,by have:=ht.out;have:=hv.out;simp at*;omega⟩
   ·go_wp2
    go_ret
    exact⟨_,rfl,⟨some ⟨b,o,none⟩,l.take (j+1),cap,by rw[List.length_take,Nat.min_eq_left hk];rfl,by rw[List.length_take];omega,by rw[List.length_take];omega,(fun e=>by cases e),(h.below hW).taken _,hd.take _,hcan.out trivial,hv.out⟩,hW⟩
theorem trim_nil (p:Option Addr) (cap:Nat) (w:World) (hd:Ci w p []) (hn:p=none->cap=0) (hcm:cap<=9223372036854775807):
  Calls Tryz.prog 151 #[.slice p 0 cap] w fun e w'=>∃v,e= .returned v/\Av w' v 0/\Below w.heap.size w w':=by
 cases p with
 |none=>
  obtain rfl:=hn rfl
  go_enter Tryz.func151,Tryz.ntmps151
  go_wp2
  refine wp_loop (fun a' W=>W=w/\∃u:Nat->Value,a'= {tmps:= #[.slice none 0 0,u 1,u 2,.int .i64 0,u 4,u 5,u 6,u 7,u 8,u 9,u 10,u 11,u 12,u 13,u 14,u 15,u 16,u 17,u 18,u 19,u 20],defers:= []}) (fun _ _=>0) ⟨rfl,Ac rfl⟩ ?_
  rintro a' W ⟨rfl,u,rfl⟩
  go_wp2
  go_ret
  exact⟨_,rfl,Av.zero _,Below.refl _ _⟩
 |some a=>
  go_enter Tryz.func151,Tryz.ntmps151
  go_wp2
  refine wp_loop (fun a' W=>W=w/\∃u:Nat->Value,a'= {tmps:= #[.slice (some a) 0 cap,u 1,u 2,.int .i64 0,u 4,u 5,u 6,u 7,u 8,u 9,u 10,u 11,u 12,u 13,u 14,u 15,u 16,u 17,u 18,u 19,u 20],defers:= []}) (fun _ _=>0) ⟨rfl,Ac rfl⟩ ?_
  rintro a' W ⟨rfl,u,rfl⟩
  go_wp2
  go_ret
  exact⟨_,rfl,⟨_,[],cap,rfl,by simp,by simp,(fun e=>by cases e),hd,Dig.nil,G3.nil,rfl⟩,Below.refl _ _⟩
theorem Pn (p:Option Addr) (cap:Nat) (l:List Int) (w:World) (h:Ci w p l) (hn:p=none->l= []/\cap=0) (hc:l.length<=cap) (hcm:cap<=9223372036854775807) (hl:l.length<=1000) (hd:Dig l):
  Calls Tryz.prog 151 #[.slice p l.length cap] w fun e w'=>∃v,e= .returned v/\Av w' v (Aq l)/\Below w.heap.size w w':=by
 cases l with
 |nil=>exact trim_nil p cap w h (fun e=>(hn e).2) hcm
 |cons d l=>
  obtain⟨b,o,rfl,_⟩:=h.at' 0 d rfl
  exact trim_some b o cap (d::l) w h hc hcm hl hd
def L6 (w:World) (p q:Option Addr) (a b:List Int) (ca cb:Nat) (a':Act) (W:World):Prop:=
 Below w.heap.size w W/\∃(l:List Int) (c:Int) (v:Value),(∃u:Nat->Value,a'= {tmps:= #[.slice p a.length ca,.slice q b.length cb,u 2,u 3,u 4,v,.int .i64 c,.int .i64 (l.length:Int),u 8,u 9,u 10,u 11,u 12,u 13,u 14,u 15,u 16,u 17,u 18,u 19,u 20,u 21,u 22,u 23,u 24,u 25,u 26,u 27,u 28,u 29,u 30,u 31,u 32,u 33,u 34,u 35,u 36,u 37,u 38,u 39,u 40,u 41,u 42,u 43,u 44,u 45,u 46,u 47,u 48,u 49,u 50,u 51,u 52,u 53],defers:= []})/\
  W.ownsRow w.heap.size 3 1 v l.length (l.map (Value.int .i64))/\Dig l/\(0<=c/\c<=1)/\Aq l+2^l.length*c.toNat=Aq (a.take l.length)+Aq (b.take l.length)/\
  ((l.length:Int)+c<=a.length+1∨(l.length:Int)+c<=b.length+1)/\(l.length=0∨l.length<=a.length∨l.length<=b.length∨2^(l.length-1)<=Aq l)
theorem plus_w (p q:Option Addr) (a b:List Int) (ca cb:Nat) (w:World) (ha:Ci w p a) (hb:Ci w q b) (hda:Dig a) (hdb:Dig b) (hca:G3 a) (hcb:G3 b) (hla:a.length<=950) (hlb:b.length<=950):
  Calls Tryz.prog 114 #[.slice p a.length ca,.slice q b.length cb] w fun e w'=>∃v,e= .returned v/\Av w' v (Aq a+Aq b)/\Below w.heap.size w w':=by
 obtain⟨i0,hi,hz0,hz1,hz2⟩:=info_parts Tryz.infoI
 go_enter Tryz.func114,Tryz.ntmps114
 go_wp2
 refine wp_loop (L6 w p q a b ca cb) (fun a' _=>2000-(Ag (a'.tmps.getD 7 undef)).toNat) ?_ ?_
 ·unfold L6
  exact⟨Below.refl _ _,[],0,_,Ac rfl,World.ownsRow_nil _ _ _ _,Dig.nil,by omega,by simp[Aq],by simp;omega,.inl rfl⟩
 ·rintro a' W ⟨hW,l,c,v,⟨u,rfl⟩,hown,hd,hc,hv,hM,hcn⟩
  have hz:=hW.size
  replace hv:=Hd hv
  replace hcn:=Hd hcn
  have hl9:l.length<=951:=by omega
  by_cases hia:l.length<a.length
  ·by_cases hib:l.length<b.length
   ·
    obtain⟨x,hx⟩:∃x,a[l.length]? =some x:=⟨a[l.length],List.getElem?_eq_getElem hia⟩
    obtain⟨ga,oa,rfl,qa⟩:=(ha.below hW).at' _ x hx
    have bx:0<=x/\x<=1:=by have:=hda.at hx;omega
    have ta:=Ep hx
    obtain⟨y,hy⟩:∃y,b[l.length]? =some y:=⟨b[l.length],List.getElem?_eq_getElem hib⟩
    obtain⟨gb,ob,rfl,qb⟩:=(hb.below hW).at' _ y hy
    have by':0<=y/\y<=1:=by have:=hdb.at hy;omega
    have tb:=Ep hy
    replace ta:=Hd ta
    replace tb:=Hd tb
    clear hx
    clear hy
    go_wp2_with (at_builtin;refine wpList_append_own _ rfl (.tmp 46) (.tmp 49) 113 rfl w.heap.size 3 i0 (.int .i64 0) 1 8 (by kernel_rfl) hi hz0 hz1 hz2 rfl (by decide) _ _ _ rfl (hown.alloc _) ⟨W.heap.size,0,none⟩ 1 1 [.int .i64 ((c+x+y)%2)] rfl rfl (cell_one_new _ _ _) (by simp[Value.oneCell']) (by simp[maxLen];omega) (by omega) (by simp;omega) ?_)
    intro v' w1 hown' hgr _
    have hB:=Hd (A7 hW hz hown hgr)
    replace hown':=Hd hown'
    clear hgr hown
    go_wp2
    refine⟨?_,by simp[Ag];omega⟩
    have ee:((l.length:Int)+1)=(((l++ [(c+x+y)%2]).length:Nat):Int):=by simp
    rw[ee]
    unfold L6
    refine⟨hB.out,l++ [(c+x+y)%2],(c+x+y)/2,v',Ac rfl,by simpa using hown'.out,hd.snoc (by omega),by omega,?_,by simp;omega,?_⟩
    ·have:=hv.out
     have e1:((c+x+y)%2).toNat+2*((c+x+y)/2).toNat=c.toNat+x.toNat+y.toNat:=by omega
     rw[De,List.length_append,List.length_singleton,Nat.pow_succ,Nat.mul_assoc,Nat.add_assoc,<-Nat.mul_add,e1,ta.out,tb.out]
     try simp only[Nat.mul_add]
     omega
    ·exact .inr (.inl (by simp;omega))
   ·
    obtain⟨x,hx⟩:∃x,a[l.length]? =some x:=⟨a[l.length],List.getElem?_eq_getElem hia⟩
    obtain⟨ga,oa,rfl,qa⟩:=(ha.below hW).at' _ x hx
    have bx:0<=x/\x<=1:=by have:=hda.at hx;omega
    have ta:=Ep hx
    have tb:Aq (b.take (l.length+1))=Aq (b.take l.length):=by rw[Do b (by omega),Do b (by omega)]
    replace ta:=Hd ta
    replace tb:=Hd tb
    clear hx
    go_wp2_with (at_builtin;refine wpList_append_own _ rfl (.tmp 46) (.tmp 49) 113 rfl w.heap.size 3 i0 (.int .i64 0) 1 8 (by kernel_rfl) hi hz0 hz1 hz2 rfl (by decide) _ _ _ rfl (hown.alloc _) ⟨W.heap.size,0,none⟩ 1 1 [.int .i64 ((c+x)%2)] rfl rfl (cell_one_new _ _ _) (by simp[Value.oneCell']) (by simp[maxLen];omega) (by omega) (by simp;omega) ?_)
    intro v' w1 hown' hgr _
    have hB:=Hd (A7 hW hz hown hgr)
    replace hown':=Hd hown'
    clear hgr hown
    go_wp2
    refine⟨?_,by simp[Ag];omega⟩
    have ee:((l.length:Int)+1)=(((l++ [(c+x)%2]).length:Nat):Int):=by simp
    rw[ee]
    unfold L6
    refine⟨hB.out,l++ [(c+x)%2],(c+x)/2,v',Ac rfl,by simpa using hown'.out,hd.snoc (by omega),by omega,?_,by simp;omega,?_⟩
    ·have:=hv.out
     have e1:((c+x)%2).toNat+2*((c+x)/2).toNat=c.toNat+x.toNat:=by omega
     rw[De,List.length_append,List.length_singleton,Nat.pow_succ,Nat.mul_assoc,Nat.add_assoc,<-Nat.mul_add,e1,ta.out,tb.out]
     try simp only[Nat.mul_add]
     omega
    ·exact .inr (.inl (by simp;omega))
  ·by_cases hib:l.length<b.length
   ·
    have ta:Aq (a.take (l.length+1))=Aq (a.take l.length):=by rw[Do a (by omega),Do a (by omega)]
    obtain⟨y,hy⟩:∃y,b[l.length]? =some y:=⟨b[l.length],List.getElem?_eq_getElem hib⟩
    obtain⟨gb,ob,rfl,qb⟩:=(hb.below hW).at' _ y hy
    have by':0<=y/\y<=1:=by have:=hdb.at hy;omega
    have tb:=Ep hy
    replace ta:=Hd ta
    replace tb:=Hd tb
    clear hy
    go_wp2_with (at_builtin;refine wpList_append_own _ rfl (.tmp 46) (.tmp 49) 113 rfl w.heap.size 3 i0 (.int .i64 0) 1 8 (by kernel_rfl) hi hz0 hz1 hz2 rfl (by decide) _ _ _ rfl (hown.alloc _) ⟨W.heap.size,0,none⟩ 1 1 [.int .i64 ((c+y)%2)] rfl rfl (cell_one_new _ _ _) (by simp[Value.oneCell']) (by simp[maxLen];omega) (by omega) (by simp;omega) ?_)
    intro v' w1 hown' hgr _
    have hB:=Hd (A7 hW hz hown hgr)
    replace hown':=Hd hown'
    clear hgr hown
    go_wp2
    refine⟨?_,by simp[Ag];omega⟩
    have ee:((l.length:Int)+1)=(((l++ [(c+y)%2]).length:Nat):Int):=by simp
    rw[ee]
    unfold L6
    refine⟨hB.out,l++ [(c+y)%2],(c+y)/2,v',Ac rfl,by simpa using hown'.out,hd.snoc (by omega),by omega,?_,by simp;omega,?_⟩
    ·have:=hv.out
     have e1:((c+y)%2).toNat+2*((c+y)/2).toNat=c.toNat+y.toNat:=by omega
     rw[De,List.length_append,List.length_singleton,Nat.pow_succ,Nat.mul_assoc,Nat.add_assoc,<-Nat.mul_add,e1,ta.out,tb.out]
     try simp only[Nat.mul_add]
     omega
    ·exact .inr (.inr (.inl (by simp;omega)))
   ·by_cases hc0:0<c
    ·
     have ta:Aq (a.take (l.length+1))=Aq (a.take l.length):=by rw[Do a (by omega),Do a (by omega)]
     have tb:Aq (b.take (l.length+1))=Aq (b.take l.length):=by rw[Do b (by omega),Do b (by omega)]
     replace ta:=Hd ta
     replace tb:=Hd tb
     go_wp2_with (at_builtin;refine wpList_append_own _ rfl (.tmp 46) (.tmp 49) 113 rfl w.heap.size 3 i0 (.int .i64 0) 1 8 (by kernel_rfl) hi hz0 hz1 hz2 rfl (by decide) _ _ _ rfl (hown.alloc _) ⟨W.heap.size,0,none⟩ 1 1 [.int .i64 ((c)%2)] rfl rfl (cell_one_new _ _ _) (by simp[Value.oneCell']) (by simp[maxLen];omega) (by omega) (by simp;omega) ?_)
     intro v' w1 hown' hgr _
     have hB:=Hd (A7 hW hz hown hgr)
     replace hown':=Hd hown'
     clear hgr hown
     go_wp2
     refine⟨?_,by simp[Ag];omega⟩
     have ee:((l.length:Int)+1)=(((l++ [(c)%2]).length:Nat):Int):=by simp
     rw[ee]
     unfold L6
     refine⟨hB.out,l++ [(c)%2],(c)/2,v',Ac rfl,by simpa using hown'.out,hd.snoc (by omega),by omega,?_,by simp;omega,?_⟩
     ·have:=hv.out
      have e1:((c)%2).toNat+2*((c)/2).toNat=c.toNat:=by omega
      rw[De,List.length_append,List.length_singleton,Nat.pow_succ,Nat.mul_assoc,Nat.add_assoc,<-Nat.mul_add,e1,ta.out,tb.out]
      try simp only[Nat.mul_add]
      omega
     ·have hc1:c=1:=by omega
      subst hc1
      exact .inr (.inr (.inr (by rw[De];simp)))
    ·have hc1:c=0:=by omega
     subst hc1
     have hsum:=Hd (show Aq l=Aq a+Aq b by
      have:=hv.out
      rw[Do a (by omega),Do b (by omega)] at this
      simpa using this)
     have hcan:G3 l:=by
      by_cases h0:l= []
      ·exact .inl h0
      ·refine .inr ?_
       have hne:l.length≠0:=fun e=>h0 (List.length_eq_zero_iff.1 e)
       have hs:=hsum.out
       rcases hcn.out with h1|h1|h1|h1
       ·omega
       ·have e:l.length=a.length:=by omega
        have:=Me hca (by rintro rfl;simp at e;exact h0 e)
        rw[<-e] at this
        omega
       ·have e:l.length=b.length:=by omega
        have:=Me hcb (by rintro rfl;simp at e;exact h0 e)
        rw[<-e] at this
        omega
       ·exact h1
     have hbits:=Hd (Ss hown rfl (by omega) hd hcan)
     clear hcn hv hcan hown
     go_wp2
     go_ret
     exact⟨v,rfl,hsum.out▸hbits.out,hW⟩
def Pg (w:World) (p q:Option Addr) (a b:List Int) (ca cb:Nat) (a':Act) (W:World):Prop:=
 Below w.heap.size w W/\∃(l:List Int) (c:Int) (v:Value),(∃u:Nat->Value,a'= {tmps:= #[.slice p a.length ca,.slice q b.length cb,u 2,u 3,u 4,v,c,.int .i64 (l.length:Int),u 8,u 9,u 10,u 11,u 12,u 13,u 14,u 15,u 16,u 17,u 18,u 19,u 20,u 21,u 22,u 23,u 24,u 25,u 26,u 27,u 28,u 29,u 30,u 31,u 32,u 33,u 34,u 35,u 36,u 37,u 38,u 39,u 40],defers:= []})/\
  W.ownsRow w.heap.size 3 1 v l.length (l.map (Value.int .i64))/\Dig l/\(0<=c/\c<=1)/\Aq l+Aq (b.take l.length)=Aq (a.take l.length)+2^l.length*c.toNat/\l.length<=a.length
theorem minus_w (p q:Option Addr) (a b:List Int) (ca cb:Nat) (w:World) (ha:Ci w p a) (hb:Ci w q b) (hda:Dig a) (hdb:Dig b) (hla:a.length<=950) (hlb:b.length<=a.length) (hge:Aq b<=Aq a):
  Calls Tryz.prog 111 #[.slice p a.length ca,.slice q b.length cb] w fun e w'=>∃v,e= .returned v/\Av w' v (Aq a-Aq b)/\Below w.heap.size w w':=by
 obtain⟨i0,hi,hz0,hz1,hz2⟩:=info_parts Tryz.infoI
 go_enter Tryz.func111,Tryz.ntmps111
 go_wp2
 refine wp_loop (Pg w p q a b ca cb) (fun a' _=>2000-(Ag (a'.tmps.getD 7 undef)).toNat) ?_ ?_
 ·unfold Pg
  exact⟨Below.refl _ _,[],0,_,Ac rfl,World.ownsRow_nil _ _ _ _,Dig.nil,by omega,by simp[Aq],by simp⟩
 ·rintro a' W ⟨hW,l,c,v,⟨u,rfl⟩,hown,hd,hc,hv,hM⟩
  have hz:=hW.size
  replace hv:=Hd hv
  have hl9:l.length<=950:=by omega
  by_cases hia:l.length<a.length
  ·obtain⟨x,hx⟩:∃x,a[l.length]? =some x:=⟨a[l.length],List.getElem?_eq_getElem hia⟩
   obtain⟨ga,oa,rfl,qa⟩:=(ha.below hW).at' _ x hx
   have bx:0<=x/\x<=1:=by have:=hda.at hx;omega
   have ta:=Hd (Ep hx)
   clear hx
   by_cases hib:l.length<b.length
   ·obtain⟨y,hy⟩:∃y,b[l.length]? =some y:=⟨b[l.length],List.getElem?_eq_getElem hib⟩
    obtain⟨gb,ob,rfl,qb⟩:=(hb.below hW).at' _ y hy
    have bq:0<=y/\y<=1:=by have:=hdb.at hy;omega
    have tb:=Hd (Ep hy)
    clear hy
    by_cases hlow:x-c-y<0
    ·
     go_wp2_with (at_builtin;refine wpList_append_own _ rfl (.tmp 35) (.tmp 37) 113 rfl w.heap.size 3 i0 (.int .i64 0) 1 8 (by kernel_rfl) hi hz0 hz1 hz2 rfl (by decide) _ _ _ rfl (hown.alloc _) ⟨W.heap.size,0,none⟩ 1 1 [.int .i64 (x-c-y+2)] rfl rfl (cell_one_new _ _ _) (by simp[Value.oneCell']) (by simp[maxLen];omega) (by omega) (by simp;omega) ?_)
     intro v' w1 hown' hgr _
     have hB:=Hd (A7 hW hz hown hgr)
     replace hown':=Hd hown'
     clear hgr hown
     go_wp2
     refine⟨?_,by simp[Ag];omega⟩
     have ee:((l.length:Int)+1)=(((l++ [x-c-y+2]).length:Nat):Int):=by simp
     rw[ee]
     unfold Pg
     refine⟨hB.out,l++ [x-c-y+2],1,v',Ac rfl,by simpa using hown'.out,hd.snoc (by omega),by omega,?_,by simp;omega⟩
     have:=hv.out
     have e1:(x-c-y+2).toNat+c.toNat+y.toNat=x.toNat+2*(1:Int).toNat:=by omega
     obtain⟨Pw,hPw⟩:∃Pw,Pw=2^l.length:=⟨_,rfl⟩
     rw[De,List.length_append,List.length_singleton,Nat.pow_succ,ta.out,tb.out]
     rw[<-hPw] at this⊢
     have e2:Pw*(x-c-y+2).toNat+Pw*c.toNat+Pw*y.toNat=Pw*x.toNat+Pw*(2*(1:Int).toNat):=by rw[<-Nat.mul_add,<-Nat.mul_add,e1,Nat.mul_add]
     have e3:Pw*2*(1:Int).toNat=Pw*(2*(1:Int).toNat):=Nat.mul_assoc _ _ _
     omega
    ·
     go_wp2_with (at_builtin;refine wpList_append_own _ rfl (.tmp 35) (.tmp 37) 113 rfl w.heap.size 3 i0 (.int .i64 0) 1 8 (by kernel_rfl) hi hz0 hz1 hz2 rfl (by decide) _ _ _ rfl (hown.alloc _) ⟨W.heap.size,0,none⟩ 1 1 [.int .i64 (x-c-y)] rfl rfl (cell_one_new _ _ _) (by simp[Value.oneCell']) (by simp[maxLen];omega) (by omega) (by simp;omega) ?_)
     intro v' w1 hown' hgr _
     have hB:=Hd (A7 hW hz hown hgr)
     replace hown':=Hd hown'
     clear hgr hown
     go_wp2
     refine⟨?_,by simp[Ag];omega⟩
     have ee:((l.length:Int)+1)=(((l++ [x-c-y]).length:Nat):Int):=by simp
     rw[ee]
     unfold Pg
     refine⟨hB.out,l++ [x-c-y],0,v',Ac rfl,by simpa using hown'.out,hd.snoc (by omega),by omega,?_,by simp;omega⟩
     have:=hv.out
     have e1:(x-c-y).toNat+c.toNat+y.toNat=x.toNat+2*(0:Int).toNat:=by omega
     obtain⟨Pw,hPw⟩:∃Pw,Pw=2^l.length:=⟨_,rfl⟩
     rw[De,List.length_append,List.length_singleton,Nat.pow_succ,ta.out,tb.out]
     rw[<-hPw] at this⊢
     have e2:Pw*(x-c-y).toNat+Pw*c.toNat+Pw*y.toNat=Pw*x.toNat+Pw*(2*(0:Int).toNat):=by rw[<-Nat.mul_add,<-Nat.mul_add,e1,Nat.mul_add]
     have e3:Pw*2*(0:Int).toNat=Pw*(2*(0:Int).toNat):=Nat.mul_assoc _ _ _
     omega
   ·have tb:=Hd (show Aq (b.take (l.length+1))=Aq (b.take l.length) by rw[Do b (by omega),Do b (by omega)])
    by_cases hlow:x-c<0
    ·
     go_wp2_with (at_builtin;refine wpList_append_own _ rfl (.tmp 35) (.tmp 37) 113 rfl w.heap.size 3 i0 (.int .i64 0) 1 8 (by kernel_rfl) hi hz0 hz1 hz2 rfl (by decide) _ _ _ rfl (hown.alloc _) ⟨W.heap.size,0,none⟩ 1 1 [.int .i64 (x-c+2)] rfl rfl (cell_one_new _ _ _) (by simp[Value.oneCell']) (by simp[maxLen];omega) (by omega) (by simp;omega) ?_)
     intro v' w1 hown' hgr _
     have hB:=Hd (A7 hW hz hown hgr)
     replace hown':=Hd hown'
     clear hgr hown
     go_wp2
     refine⟨?_,by simp[Ag];omega⟩
     have ee:((l.length:Int)+1)=(((l++ [x-c+2]).length:Nat):Int):=by simp
     rw[ee]
     unfold Pg
     refine⟨hB.out,l++ [x-c+2],1,v',Ac rfl,by simpa using hown'.out,hd.snoc (by omega),by omega,?_,by simp;omega⟩
     have:=hv.out
     have e1:(x-c+2).toNat+c.toNat=x.toNat+2*(1:Int).toNat:=by omega
     obtain⟨Pw,hPw⟩:∃Pw,Pw=2^l.length:=⟨_,rfl⟩
     rw[De,List.length_append,List.length_singleton,Nat.pow_succ,ta.out,tb.out]
     rw[<-hPw] at this⊢
     have e2:Pw*(x-c+2).toNat+Pw*c.toNat=Pw*x.toNat+Pw*(2*(1:Int).toNat):=by rw[<-Nat.mul_add,e1,Nat.mul_add]
     have e3:Pw*2*(1:Int).toNat=Pw*(2*(1:Int).toNat):=Nat.mul_assoc _ _ _
     omega
    ·
     go_wp2_with (at_builtin;refine wpList_append_own _ rfl (.tmp 35) (.tmp 37) 113 rfl w.heap.size 3 i0 (.int .i64 0) 1 8 (by kernel_rfl) hi hz0 hz1 hz2 rfl (by decide) _ _ _ rfl (hown.alloc _) ⟨W.heap.size,0,none⟩ 1 1 [.int .i64 (x-c)] rfl rfl (cell_one_new _ _ _) (by simp[Value.oneCell']) (by simp[maxLen];omega) (by omega) (by simp;omega) ?_)
     intro v' w1 hown' hgr _
     have hB:=Hd (A7 hW hz hown hgr)
     replace hown':=Hd hown'
     clear hgr hown
     go_wp2
     refine⟨?_,by simp[Ag];omega⟩
     have ee:((l.length:Int)+1)=(((l++ [x-c]).length:Nat):Int):=by simp
     rw[ee]
     unfold Pg
     refine⟨hB.out,l++ [x-c],0,v',Ac rfl,by simpa using hown'.out,hd.snoc (by omega),by omega,?_,by simp;omega⟩
     have:=hv.out
     have e1:(x-c).toNat+c.toNat=x.toNat+2*(0:Int).toNat:=by omega
     obtain⟨Pw,hPw⟩:∃Pw,Pw=2^l.length:=⟨_,rfl⟩
     rw[De,List.length_append,List.length_singleton,Nat.pow_succ,ta.out,tb.out]
     rw[<-hPw] at this⊢
     have e2:Pw*(x-c).toNat+Pw*c.toNat=Pw*x.toNat+Pw*(2*(0:Int).toNat):=by rw[<-Nat.mul_add,e1,Nat.mul_add]
     have e3:Pw*2*(0:Int).toNat=Pw*(2*(0:Int).toNat):=Nat.mul_assoc _ _ _
     omega
  ·have hl0:l.length=a.length:=by omega
   have hsum:=Hd (show Aq l=Aq a-Aq b by
    have h1:=hv.out
    have h2:=Np l hd
    rw[Do a (by omega),Do b (by omega)] at h1
    rcases (show c=0∨c=1 by omega) with rfl|rfl
    ·simp at h1;omega
    ·simp at h1;omega)
   obtain⟨p',cap',hv',hcap,hcm,hn',hI⟩:∃p' cap',v= .slice p' l.length cap'/\l.length<=cap'/\cap'<=9223372036854775807/\(p'=none->l= []/\cap'=0)/\Ci W p' l:=by
    obtain⟨_,h2'|⟨g,cap',cur,rfl,hg,hb',hn,hmx,hcc,ht⟩⟩:=hown
    ·obtain⟨rfl,h0⟩:=h2'
     have:l= []:=List.length_eq_zero_iff.1 h0
     subst this
     exact⟨none,0,rfl,by simp,by omega,fun _=>⟨rfl,rfl⟩,⟨fun i x h=>by simp at h,fun a e=>by cases e⟩⟩
    ·exact⟨some ⟨g,0,none⟩,cap',rfl,hn,by unfold maxLen at hmx;omega,(fun e=>by cases e),Nc hb' (by simpa using ht)⟩
   subst hv'
   have ct:=fun W' (hW':Below W.heap.size W W')=>Pn p' cap' l W' (hI.below hW') hn' hcap hcm (by omega) hd
   rw[hsum.out] at ct
   replace ct:=Hd ct
   clear hv hI hl0
   go_wp2_with fail
   refine(ct.out _ (Below.refl _ _)).mono ?_
   rintro e w2 ⟨v2,rfl,hb2,hB2⟩
   replace hb2:=Hd hb2
   have hBB:=Hd (hW.trans (hB2.mono hz))
   clear hB2
   go_wp2
   go_ret
   exact⟨v2,rfl,hb2.out,hBB.out⟩
attribute [local simp] Oper.looksAt Op.operands Call.operands Af Det Am
theorem D9 {l:List Int} {k:Nat} (h:G3 l) (hv:Aq l<2^k):l.length<=k:=by
 rcases h with rfl|h
 ·simp
 ·rcases Nat.lt_or_ge k l.length with h1|h1
  ·have:=Nat.pow_le_pow_right (n:=2) (by omega) (show k<=l.length-1 by omega)
   omega
  ·exact h1
theorem Xf (va vb:Value) (m n:Nat) (w:World) (ha:Av w va m) (hb:Av w vb n) (hm:m<2^900) (hn:n<2^900):
  Calls Tryz.prog 114 #[va,vb] w fun e w'=>∃v,e= .returned v/\Av w' v (m+n)/\Below w.heap.size w w':=by
 obtain⟨p,a,ca,rfl,_,_,_,hia,hda,hca,rfl⟩:=ha
 obtain⟨q,b,cb,rfl,_,_,_,hib,hdb,hcb,rfl⟩:=hb
 have h1:=D9 hca hm
 have h2:=D9 hcb hn
 exact plus_w p q a b ca cb w hia hib hda hdb hca hcb (by omega) (by omega)
theorem Kh (va vb:Value) (m n:Nat) (w:World) (ha:Av w va m) (hb:Av w vb n) (hm:m<2^900) (hn:n<=m):
  Calls Tryz.prog 111 #[va,vb] w fun e w'=>∃v,e= .returned v/\Av w' v (m-n)/\Below w.heap.size w w':=by
 obtain⟨p,a,ca,rfl,_,_,_,hia,hda,hca,rfl⟩:=ha
 obtain⟨q,b,cb,rfl,_,_,_,hib,hdb,hcb,rfl⟩:=hb
 have h1:=D9 hca hm
 refine minus_w p q a b ca cb w hia hib hda hdb (by omega) ?_ hn
 rcases Nat.lt_or_ge a.length b.length with h|h
 ·have:=Ry hda hcb h
  omega
 ·exact h
structure Ey (w:World) (g o:Nat) (v:Value):Prop where
 cell:w.cell? ⟨g,o,none⟩=some v
theorem Ey.rex {L:List Nat} {w w':World} {g o:Nat} {v:Value} (h:Ey w g o v) (hr:Rex L w w') (hL:L= []):Ey w' g o v:=by
 subst hL
 exact⟨(hr.below.cell (p:=⟨g,o,none⟩) (Ap h.cell)).trans h.cell⟩
theorem Ey.drew {w:World} {g o:Nat} {v:Value} (h:Ey w g o v):Ey w.drew g o v:=⟨h.cell⟩
theorem less_ne (p q:Option Addr) (a b:List Int) (ca cb:Nat) (w:World) (hla:a.length<=1000) (hlb:b.length<=1000) (hne:((a.length:Int) !=b.length)=true):
  Cb 113 #[.slice p a.length ca,.slice q b.length cb] w (.bool (decide (a.length<b.length))):=by
 go_enter Tryz.func113,Tryz.ntmps113
 go_wp2
 go_ret
 exact⟨rfl,Below.refl _ _⟩
def Wi (w:World) (p q:Option Addr) (a b:List Int) (ca cb:Nat) (a':Act) (W:World):Prop:=
 Below w.heap.size w W/\∃k:Nat,(∃u:Nat->Value,a'= {tmps:= #[.slice p a.length ca,.slice q b.length cb,u 2,u 3,u 4,.int .i64 ((k:Int)-1),u 6,u 7,u 8,u 9,u 10,u 11,u 12,u 13,u 14,u 15,u 16,u 17,u 18,u 19,u 20,u 21,u 22,u 23,u 24,u 25,u 26,u 27,u 28,u 29,u 30,u 31,u 32,u 33,u 34,u 35,u 36,u 37,u 38,u 39,u 40],defers:= []})/\k<=a.length/\a.drop k=b.drop k
theorem less_eq (p q:Option Addr) (a b:List Int) (ca cb:Nat) (w:World) (ha:Ci w p a) (hb:Ci w q b) (hda:Dig a) (hdb:Dig b) (hla:a.length<=1000) (heq:a.length=b.length):
  Cb 113 #[.slice p a.length ca,.slice q b.length cb] w (.bool (decide (Aq a<Aq b))):=by
 have hne:((a.length:Int) !=b.length)=false:=by rw[heq];simp
 have Heq:=Hd heq
 clear heq
 go_enter Tryz.func113,Tryz.ntmps113
 go_wp2
 refine wp_loop (Wi w p q a b ca cb) (fun a' _=>((Ag (a'.tmps.getD 5 undef))+1).toNat) ?_ ?_
 ·unfold Wi
  exact⟨Below.refl _ _,a.length,Ac rfl,Nat.le_refl _,by rw[List.drop_eq_nil_of_le (Nat.le_refl _),List.drop_eq_nil_of_le (by rw[Heq.out];exact Nat.le_refl _)]⟩
 ·rintro a' W ⟨hW,k,⟨u,rfl⟩,hk,hd⟩
  have hz:=hW.size
  replace hd:=Hd hd
  cases k with
  |zero=>
   have hab:Aq a=Aq b:=by have:=hd.out;simp at this;rw[this]
   have hf:=Hd (show decide (Aq a<Aq b)=false by simp;omega)
   clear hab hd
   go_wp2
   go_ret
   exact⟨by rw[hf.out];rfl,hW⟩
  |succ j=>
   obtain⟨x,hx⟩:∃x,a[j]? =some x:=⟨a[j],List.getElem?_eq_getElem (by omega)⟩
   obtain⟨y,hy⟩:∃y,b[j]? =some y:=⟨b[j]'(by rw[<-Heq.out];omega),List.getElem?_eq_getElem _⟩
   obtain⟨ga,oa,rfl,qa⟩:=(ha.below hW).at' _ x hx
   obtain⟨gb,ob,rfl,qb⟩:=(hb.below hW).at' _ y hy
   have cx:Ey W ga (oa+j) (x):=⟨qa⟩
   have cy:Ey W gb (ob+j) (y):=⟨qb⟩
   have hja:j<a.length:=by omega
   have hjb:j<b.length:=by rw[<-Heq.out];omega
   have hxx:=Hd hx
   have hyy:=Hd hy
   have e0:((j+1:Nat):Int)-1=(j:Int):=by omega
   have e1:=Hd e0
   have e2:=Hd (show ((j:Int)).toNat=j by omega)
   rw[e0]
   clear hx hy qa qb e0
   have b1:=cx
   have b2:=cy
   go_upto_region 6 with(fail)
   refine Bd (fun W'=>Below w.heap.size w W'/\Ey W' ga (oa+j) (x)/\Ey W' gb (ob+j) (y)) ⟨by exact Aa,by exact b1,by exact b2⟩ ?_
   clear b1 b2 hW
   rintro W1 ⟨hW,b1,b2⟩
   have z2:=hW.size
   refine D7 9 41 [] (fun W'=>Rex [] W1 W'/\Ey W' ga (oa+j) (x)/\Ey W' gb (ob+j) (y)) Cu (by kernel_rfl) rfl ⟨(Rex.refl _ _).drew,b1.drew,b2.drew⟩ (fun w w' ⟨h0,h1,h2⟩ hr=>⟨h0.trans hr,h1.rex hr (by simp<;>omega),h2.rex hr (by simp<;>omega)⟩) rfl ?_
   iterate 9
    apply An (hg:=rfl) (hal:=rfl)
    ·intro a W' hC hE
     obtain⟨_,k1,k2⟩:=hC
     have k1:=k1.cell
     have k2:=k2.cell
     first
      |(simp at hE;simp[go_sem,Act.eval,iw,hE,k1,k2,hja,hjb,e1.out,e2.out];try rfl)
      |(clear hE;simp[go_sem,Act.eval,iw,k1,k2,hja,hjb,e1.out,e2.out];try rfl)
   rintro W3 ⟨hR,d1,d2⟩
   simp only[A6,Det,forall_eq]
   intros
   repeat (rename Am _ _ _ _=>hgd;clear hgd)
   simp only[nS]
   refine wpList_nil ?_
   replace hW:=hW.trans (hR.of_priv hW.size)
   clear hR
   try clear b1 b2
   have b1:=d1
   clear d1
   have b2:=d2
   clear d2
   by_cases hxy:x=y
   ·have hdj:=Hd (show a.drop j=b.drop j by
     rw[List.drop_eq_getElem_cons hja,List.drop_eq_getElem_cons hjb,hd.out]
     have t1:=hxx.out;have t2:=hyy.out
     rw[List.getElem?_eq_getElem hja] at t1
     rw[List.getElem?_eq_getElem hjb] at t2
     simp at t1 t2
     rw[t1,t2,hxy])
    have hb:=Hd (show (x !=y)=false by simp[hxy])
    rw[hb.out]
    clear hd
    go_wp2
    refine⟨?_,by simp[Ag]⟩
    unfold Wi
    exact⟨hW,j,Ac rfl,by omega,hdj.out⟩
   ·have hb:=Hd (show (x !=y)=true by simp[hxy])
    rw[hb.out]
    have hres:=Hd (show decide (x<y)=decide (Aq a<Aq b) by
     have t1:=less_at hda hdb Heq.out hxx.out hyy.out hd.out
     have t2:=less_at hdb hda Heq.out.symm hyy.out hxx.out hd.out.symm
     rcases Int.lt_trichotomy x y with h|h|h
     ·simp[h,t1 h]
     ·exact absurd h hxy
     ·have:=t2 h
      simp;omega)
    go_wp2
    go_upto_region 7 with(fail)
    refine Bd (fun W'=>Below w.heap.size w W'/\Ey W' ga (oa+j) (x)/\Ey W' gb (ob+j) (y)) ⟨by exact Aa,by exact b1,by exact b2⟩ ?_
    clear b1 b2 hW
    rintro W8 ⟨hW,b1,b2⟩
    have z9:=hW.size
    refine D7 10 41 [] (fun W'=>Rex [] W8 W'/\Ey W' ga (oa+j) (x)/\Ey W' gb (ob+j) (y)) Cu (by kernel_rfl) rfl ⟨(Rex.refl _ _).drew,b1.drew,b2.drew⟩ (fun w w' ⟨h0,h1,h2⟩ hr=>⟨h0.trans hr,h1.rex hr (by simp<;>omega),h2.rex hr (by simp<;>omega)⟩) rfl ?_
    iterate 10
     apply An (hg:=rfl) (hal:=rfl)
     ·intro a W' hC hE
      obtain⟨_,k1,k2⟩:=hC
      have k1:=k1.cell
      have k2:=k2.cell
      first
       |(simp at hE;simp[go_sem,Act.eval,iw,hE,k1,k2,hja,hjb,e1.out,e2.out];try rfl)
       |(clear hE;simp[go_sem,Act.eval,iw,k1,k2,hja,hjb,e1.out,e2.out];try rfl)
    rintro W10 ⟨hR,d1,d2⟩
    simp only[A6,Det,forall_eq]
    intros
    repeat (rename Am _ _ _ _=>hgd;clear hgd)
    simp only[nS]
    refine wpList_nil ?_
    replace hW:=hW.trans (hR.of_priv hW.size)
    clear hR
    try clear b1 b2
    have b1:=d1
    clear d1
    have b2:=d2
    clear d2
    go_wp2
    rw[hres.out]
    go_ret
    exact⟨rfl,hW⟩
theorem Ls (va vb:Value) (m n:Nat) (w:World) (ha:Av w va m) (hb:Av w vb n) (hm:m<2^900) (hn:n<2^900):
  Cb 113 #[va,vb] w (.bool (decide (m<n))):=by
 obtain⟨p,a,ca,rfl,_,_,_,hia,hda,hca,rfl⟩:=ha
 obtain⟨q,b,cb,rfl,_,_,_,hib,hdb,hcb,rfl⟩:=hb
 have h1:=D9 hca hm
 have h2:=D9 hcb hn
 by_cases he:a.length=b.length
 ·exact less_eq p q a b ca cb w hia hib hda hdb (by omega) he
 ·refine(less_ne p q a b ca cb w (by omega) (by omega) (by simp;omega)).mono ?_
  rintro e w' ⟨rfl,h⟩
  refine⟨?_,h⟩
  congr 2
  rcases Nat.lt_or_ge a.length b.length with h3|h3
  ·have:=Ry hda hcb h3
   simp[h3,this]
  ·have:=Ry hdb hca (by omega)
   simp;omega
end Go.Proofs.YtdeghcgakkhbmaaGreat
namespace Go.Proofs.YtdeghcgakkhbmaaGreat
open Go.RowKit
theorem Hp {w:World} {base n:Nat} {v:Value} {l:List Int} (h:w.ownsRow base 3 1 v n (l.map (Value.int .i64))) (hn:n=l.length):
  ∃p cap,v= .slice p l.length cap/\l.length<=cap/\cap<=9223372036854775807/\(p=none->l= []/\cap=0)/\Ci w p l:=by
 subst hn
 obtain⟨_,h2'|⟨g,cap',cur,rfl,hg,hb',hn,hmx,hcc,ht⟩⟩:=h
 ·obtain⟨rfl,h0⟩:=h2'
  have:l= []:=List.length_eq_zero_iff.1 h0
  subst this
  exact⟨none,0,rfl,by simp,by omega,fun _=>⟨rfl,rfl⟩,⟨fun i x h=>by simp at h,fun a e=>by cases e⟩⟩
 ·exact⟨some ⟨g,0,none⟩,cap',rfl,by simpa using hn,by unfold maxLen at hmx;omega,(fun e=>by cases e),Nc hb' (by simpa using ht)⟩
theorem Gg {B:Nat} (W:World) (d:Int) (hB:B<=W.heap.size):
  (W.alloc (.cells #[d] 3)).ownsRow B 3 1 (.slice (some ⟨W.heap.size,0,none⟩) 1 1) 1 [d]:=
 ⟨rfl,.inr ⟨W.heap.size,1,#[d],rfl,hB,Array.getElem?_push_size,Nat.le_refl _,by unfold maxLen;omega,rfl,rfl⟩⟩
theorem Gm (W:World) (d:Int):Ci (W.alloc (.cells #[d] 3)) (some ⟨W.heap.size,0,none⟩) [d]:=by
 obtain⟨p,cap,e,_,_,_,h⟩:=Hp (l:= [d]) (Gg W d (Nat.le_refl _)) rfl
 cases e
 exact h
theorem Jy (l:List Int):∀u∈l.map (Value.int .i64),u.oneCell'=true:=by
 intro u hu
 obtain⟨x,_,rfl⟩:=List.mem_map.1 hu
 rfl
theorem Jz {W:World} {ad:Addr} {l:List Int} {o:Obj} (h:Ci W (some ad) l):∀j u,(l.map (Value.int .i64))[j]? =some u->(W.alloc o).cell? (ad.add j)=some u:=by
 intro j u hu
 rw[List.getElem?_map] at hu
 obtain⟨x,hx,rfl⟩:=Option.map_eq_some_iff.1 hu
 obtain⟨b,o',e,hc⟩:=h.at' j x hx
 cases e
 have:=(((Below.refl W.heap.size W).alloc (Nat.le_refl _) o).cell (p:=⟨b,o'+j,none⟩) (Ap hc)).trans hc
 rw[Addr.add_lit]
 exact this
theorem Gv {l:List Int} (h:Dig l) {k:Nat} (hl:l.length<=k):Aq l<2^k:=
 Nat.lt_of_lt_of_le (Np l h) (Nat.pow_le_pow_right (by omega) hl)
theorem O3 {b:List Int} {j:Nat} {y:Int} (h:b[j]? =some y):Aq (b.drop j)=y.toNat+2*Aq (b.drop (j+1)):=by
 obtain⟨h1,h2⟩:=List.getElem?_eq_some_iff.1 h
 rw[List.drop_eq_getElem_cons h1,h2]
 rfl
theorem mul_pow {m n:Nat} (j k i:Nat) (h1:m<2^j) (h2:n<2^k) (h:j+k=i):m*n<2^i:=by
 subst h
 rw[Nat.pow_add]
 exact Nat.mul_lt_mul'' h1 h2
def O4 (w:World) (p q:Option Addr) (a b:List Int) (ca cb:Nat) (a':Act) (W:World):Prop:=
 Below w.heap.size w W/\∃(k:Nat) (v:Value),(∃u:Nat->Value,a'= {tmps:= #[.slice p a.length ca,.slice q b.length cb,u 2,u 3,u 4,v,.int .i64 ((k:Int)-1),u 7,u 8,u 9,u 10,u 11,u 12,u 13,u 14,u 15,u 16,u 17,u 18,u 19,u 20,u 21,u 22,u 23,u 24,u 25,u 26],defers:= []})/\k<=b.length/\Av W v (Aq a*Aq (b.drop k))
theorem times_w (p q:Option Addr) (a b:List Int) (ca cb:Nat) (w:World) (ha:Ci w p a) (hb:Ci w q b) (hda:Dig a) (hdb:Dig b) (hA:Av w (.slice p a.length ca) (Aq a)) (hla:a.length<=400) (hlb:b.length<=400):
  Calls Tryz.prog 148 #[.slice p a.length ca,.slice q b.length cb] w fun e w'=>∃v,e= .returned v/\Av w' v (Aq a*Aq b)/\Below w.heap.size w w':=by
 obtain⟨i0,hi,hz0,hz1,hz2⟩:=info_parts Tryz.infoI
 go_enter Tryz.func148,Tryz.ntmps148
 go_wp2
 refine wp_loop (O4 w p q a b ca cb) (fun a' _=>((Ag (a'.tmps.getD 6 undef))+1).toNat) ?_ ?_
 ·unfold O4
  exact⟨Below.refl _ _,b.length,_,Ac rfl,Nat.le_refl _,by rw[List.drop_eq_nil_of_le (Nat.le_refl _)];exact Av.zero _⟩
 ·rintro a' W ⟨hW,k,v,⟨u,rfl⟩,hk,hv⟩
  have hz:=hW.size
  cases k with
  |zero=>
   replace hv:=Hd hv
   go_wp2
   go_ret
   exact⟨_,rfl,by have:=hv.out;rwa [List.drop_zero] at this,hW⟩
  |succ j=>
   obtain⟨y,hy⟩:∃y,b[j]? =some y:=⟨b[j],List.getElem?_eq_getElem (by omega)⟩
   have hb0:=hb
   obtain⟨gb,ob,rfl,qb⟩:=(hb.below hW).at' _ y hy
   obtain⟨pl,l,cl,rfl,hlc,hl1,hln,hil,hdl,hcl,hvl⟩:=hv
   replace hvl:=Hd hvl
   replace hln:=Hd hln
   have hyy:=Hd hy
   have by01:=hdb.at hy
   have e0:((j+1:Nat):Int)-1=(j:Int):=by omega
   have e1:=Hd e0
   rw[e0]
   clear hy e0
   have hprod:=Hd (mul_pow (m:=Aq a) (n:=Aq (b.drop (j+1))) 400 400 800 (Gv (k:=400) hda hla) (Gv (k:=400) (hdb.drop _) (by simp;omega)) rfl)
   have hstep:=Hd (O3 hyy.out)
   have hl9:l.length<=800:=D9 hcl (by rw[hvl.out];exact hprod.out)
   cases pl with
   |none=>
    obtain⟨rfl,rfl⟩:=hln.out rfl
    have ct:=Hd (fun W' (hW':Below (W.alloc (.cells #[.int .i64 0] 3)).heap.size (W.alloc (.cells #[.int .i64 0] 3)) W')=>Pn (some ⟨W.heap.size,0,none⟩) 1 [0] W' ((Gm W 0).below hW') (fun e=>by cases e) (by simp) (by omega) (by simp) (Dig.nil.cons (.inl rfl)))
    have hB:=hW.alloc hz (.cells #[.int .i64 0] 3)
    replace hB:=Hd hB
    have hz1:=hB.out.size
    go_wp2_with fail
    refine(ct.out _ (Below.refl _ _)).mono ?_
    rintro e w2 ⟨v2,rfl,hb2,hB2⟩
    rw[show Aq (0:: [])=2*(Aq a*Aq (b.drop (j+1))) by rw[<-hvl.out];simp[Aq]] at hb2
    replace hb2:=Hd hb2
    have hBB:=Hd (hB.out.trans (hB2.mono hz1))
    have hz2:=hBB.out.size
    obtain⟨_,_,e,qb2⟩:=(hb0.below hBB.out).at' _ y hyy.out
    cases e
    clear hB2 hB ct hz1 qb
    rcases by01 with rfl|rfl
    ·have hval:=Hd (show Aq a*Aq (b.drop j)=2*(Aq a*Aq (b.drop (j+1))) by rw[hstep.out,Nat.mul_add,Nat.mul_left_comm];simp)
     go_wp2
     refine⟨?_,by simp[Ag]⟩
     unfold O4
     exact⟨hBB.out,j,v2,Ac rfl,by omega,by rw[hval.out];exact hb2.out⟩
    ·have hval:=Hd (show Aq a*Aq (b.drop j)=2*(Aq a*Aq (b.drop (j+1)))+Aq a by rw[hstep.out,Nat.mul_add,Nat.mul_left_comm];simp;omega)
     have cp:=Hd (Xf v2 (.slice p a.length ca) _ _ w2 hb2.out (hA.below hBB.out) (T0 800 900 hprod.out (by omega)) (Gv (k:=900) hda (by omega)))
     go_wp2_with fail
     refine cp.out.mono ?_
     rintro e w3 ⟨v3,rfl,hb3,hB3⟩
     replace hb3:=Hd hb3
     have hB4:=Hd (hBB.out.trans (hB3.mono hz2))
     clear hB3 cp
     go_wp2
     refine⟨?_,by simp[Ag]⟩
     unfold O4
     exact⟨hB4.out,j,v3,Ac rfl,by omega,by rw[hval.out];exact hb3.out⟩
   |some ad=>
    go_wp2_with (at_builtin;refine wpList_append_own _ rfl (.tmp 14) (.tmp 15) 113 rfl w.heap.size 3 i0 (.int .i64 0) 1 8 (by kernel_rfl) hi hz0 hz1 hz2 rfl (by decide) _ 1 [.int .i64 0] rfl (Gg W 0 hz) ad l.length cl (l.map (Value.int .i64)) rfl (by simp) (Jz hil) (Jy l) (by simp[maxLen];omega) (by omega) (by simp;omega) ?_)
    intro v' w1 hown hgr _
    obtain⟨p',cap',rfl,hcap,hcm,hn',hI⟩:=Hp (l:=0::l) hown (by simp;omega)
    have hB:=(hW.alloc hz (.cells #[.int .i64 0] 3)).grown hgr (by simp;omega) fun j ej=>by
     obtain rfl:W.heap.size=j:=by simpa [Value.ownBlock] using ej
     exact hz
    have ct:=Hd (fun W' (hW':Below w1.heap.size w1 W')=>Pn p' cap' (0::l) W' (hI.below hW') hn' hcap hcm (by simp;omega) (hdl.cons (.inl rfl)))
    clear hown hgr hI
    replace hB:=Hd hB
    have hz1:=hB.out.size
    go_wp2_with fail
    refine(ct.out _ (Below.refl _ _)).mono ?_
    rintro e w2 ⟨v2,rfl,hb2,hB2⟩
    rw[show Aq (0::l)=2*(Aq a*Aq (b.drop (j+1))) by rw[<-hvl.out];simp[Aq]] at hb2
    replace hb2:=Hd hb2
    have hBB:=Hd (hB.out.trans (hB2.mono hz1))
    have hz2:=hBB.out.size
    obtain⟨_,_,e,qb2⟩:=(hb0.below hBB.out).at' _ y hyy.out
    cases e
    clear hB2 hB ct hz1 qb
    rcases by01 with rfl|rfl
    ·have hval:=Hd (show Aq a*Aq (b.drop j)=2*(Aq a*Aq (b.drop (j+1))) by rw[hstep.out,Nat.mul_add,Nat.mul_left_comm];simp)
     go_wp2
     refine⟨?_,by simp[Ag]⟩
     unfold O4
     exact⟨hBB.out,j,v2,Ac rfl,by omega,by rw[hval.out];exact hb2.out⟩
    ·have hval:=Hd (show Aq a*Aq (b.drop j)=2*(Aq a*Aq (b.drop (j+1)))+Aq a by rw[hstep.out,Nat.mul_add,Nat.mul_left_comm];simp;omega)
     have cp:=Hd (Xf v2 (.slice p a.length ca) _ _ w2 hb2.out (hA.below hBB.out) (T0 800 900 hprod.out (by omega)) (Gv (k:=900) hda (by omega)))
     go_wp2_with fail
     refine cp.out.mono ?_
     rintro e w3 ⟨v3,rfl,hb3,hB3⟩
     replace hb3:=Hd hb3
     have hB4:=Hd (hBB.out.trans (hB3.mono hz2))
     clear hB3 cp
     go_wp2
     refine⟨?_,by simp[Ag]⟩
     unfold O4
     exact⟨hB4.out,j,v3,Ac rfl,by omega,by rw[hval.out];exact hb3.out⟩
theorem c_times (va vb:Value) (m n:Nat) (w:World) (ha:Av w va m) (hb:Av w vb n) (hm:m<2^400) (hn:n<2^400):
  Calls Tryz.prog 148 #[va,vb] w fun e w'=>∃v,e= .returned v/\Av w' v (m*n)/\Below w.heap.size w w':=by
 have hA:=ha
 obtain⟨p,a,ca,rfl,_,_,_,hia,hda,hca,rfl⟩:=ha
 obtain⟨q,b,cb,rfl,_,_,_,hib,hdb,hcb,rfl⟩:=hb
 exact times_w p q a b ca cb w hia hib hda hdb hA (D9 hca hm) (D9 hcb hn)
end Go.Proofs.YtdeghcgakkhbmaaGreat
