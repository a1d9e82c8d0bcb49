/- Parts of the proof that follows. No condition. -/
import Derived.Laws.EntriesVeiled
import Derived.Laws.AppendOwn
import Derived.RangeFuncNested
import Derived.RangeFuncBound
import Derived.RangeFuncCalls
import Derived.RangeFuncLeaves
import Derived.RangeFuncBox
import Derived.Maps.AppendAt
import Derived.Shelf.Abstract
import Derived.Shelf.RegionOpen
import Derived.WalkKit
import Derived.OwnWalkIn
import Derived.TacticsInMore
import Derived.LoopNIn
import Derived.LoopIn
import Derived.Test.YtpdhdjlhicceoaaGreatDoorTl5
set_option maxRecDepth 100000
set_option maxHeartbeats 8000000
set_option linter.unusedSimpArgs false
set_option linter.unusedVariables false
namespace Go.Proofs.YtpdhdjlhicceoaaGreatDoor
open Go.RowKit
theorem Tryz.infoInt :(Tryz.prog.info? 2).map (fun i=>(i.zero,i.size,i.bytes))=some (some (.int .i64 0),1,8):=by kernel_rfl
theorem IntsIn.part {w:World} {vb vo i n:Nat} {raw:List Int} (h:IntsIn w (some ⟨vb,vo,none⟩) raw) (k:Nat) (v:Value) (hv:(((raw.drop i).take n).map (Value.int .i64))[k]? =some v):w.cell? ((⟨vb,vo+i,none⟩:Addr).add k)=some v:=by
 have hadd:(⟨vb,vo+i,none⟩:Addr).add k=⟨vb,vo+i+k,none⟩:=by unfold Addr.add;split<;>simp_all
 rw[hadd]
 simp only[List.getElem?_map,Option.map_eq_some_iff] at hv
 obtain⟨x,hx,rfl⟩:=hv
 have hx':raw[i+k]? =some x:=by
  rw[List.getElem?_take] at hx
  split at hx
  ·rwa [List.getElem?_drop] at hx
  ·cases hx
 obtain⟨b,y,e,hc⟩:=h.at' _ x hx'
 cases e
 rw[Nat.add_assoc];exact hc
def rpRel (w:World) (i j:Nat) (lo hi:Int) (V:List Int) (SS:Nat->Int) (o:Nat) (a':Act) (W:World):Prop:=
 Below w.heap.size w W/\Blk W (w.heap.size+1) #[.int .i64 0,.int .i64 0,.int .i64 0,.int .i64 0,.int .u64 0] 281/\Blk W (w.heap.size+1+1) (V.map (Value.int .i64)).toArray 2/\∃k:Nat,(∃u:Nat->Value,a'= {tmps:= #[u 0,u 1,u 2,u 3,u 4,u 5,.pointer (some ⟨w.heap.size+1,0,none⟩),u 7,.pointer (some ⟨o,0,none⟩),u 9,u 10,u 11,u 12,u 13,u 14,u 15,u 16,u 17,u 18,u 19,u 20,u 21,u 22,u 23,u 24,u 25,u 26,u 27,u 28,u 29,u 30,.slice (some ⟨w.heap.size+1+1,0,none⟩) V.length V.length,.int .i64 (V.length:Int),.int .i64 (k:Int),u 34,u 35,u 36,u 37,u 38,u 39,u 40,u 41,u 42,u 43,u 44,u 45,u 46,u 47],defers:= []})/\k<=V.length/\Blk W o #[.int .i64 ((j:Int)-(i:Int)),.int .i64 lo,.int .i64 hi,.int .i64 (hiW (SS k)),.int .u64 (loW (SS k))] 281
def lsum:List Int->Int
 | []=>0
 |x::l=>x+lsum l
def slice (l:List Int) (i j:Nat):List Int:=(l.take j).drop i
theorem timesL_append (a b:List RunT):timesL (a++b)=timesL a++timesL b:=by
 induction a with
 |nil=>rfl
 |cons r a ih=>simp[timesL,ih]
def valAt (s:SegT) (t:Int):Int:=lineVal s.A s.R s.n s.d (t-firstT s.runs)
def vals (s:SegT):List Int:=if s.K=4 then s.raw else (timesL s.runs).map (valAt s)
def partA (W:List Int):Array Value:= #[.int .i64 W.length,.int .i64 (minL W),.int .i64 (maxL W),.int .i64 (hiW (lsum W)),.int .u64 (loW (lsum W))]
theorem isBack_iff {v:Int}:isBack v=true↔-2305844108725321728<=v/\v<=2305844108725321728:=by unfold isBack;simp
theorem lineVal_up {A R n d t t':Int} (hd:1<=d) (hn:0<=n) (h:t<=t'):lineVal A R n d t<=lineVal A R n d t':=by
 unfold lineVal
 have:=Int.mul_le_mul_of_nonneg_left h hn
 have:=Int.ediv_le_ediv (show 0<d by omega) (show n*t+R<=n*t'+R by omega)
 omega
theorem lineVal_down {A R n d t t':Int} (hd:1<=d) (hn:n<=0) (h:t<=t'):lineVal A R n d t'<=lineVal A R n d t:=by
 unfold lineVal
 have:=Int.mul_le_mul_of_nonpos_left hn h
 have:=Int.ediv_le_ediv (show 0<d by omega) (show n*t'+R<=n*t+R by omega)
 omega
theorem lineVal_between {A R n d a t b:Int} (hd:1<=d) (h1:a<=t) (h2:t<=b):
  min (lineVal A R n d a) (lineVal A R n d b)<=lineVal A R n d t/\lineVal A R n d t<=max (lineVal A R n d a) (lineVal A R n d b):=by
 rcases Int.le_total 0 n with hn|hn
 ·have:=lineVal_up (A:=A) (R:=R) hd hn h1
  have:=lineVal_up (A:=A) (R:=R) hd hn h2
  omega
 ·have:=lineVal_down (A:=A) (R:=R) hd hn h1
  have:=lineVal_down (A:=A) (R:=R) hd hn h2
  omega
structure LineSeg (s:SegT):Prop where
 runs:RunsOk s.runs
 line:LineOk s.A s.R s.n s.d
 ends:endsOk s.A s.R s.n s.d 0 (lastT s.runs-firstT s.runs)=true
theorem at_times {l:List RunT} (h:RunsOk l) {k:Nat} (hk:(k:Int)<cnt l):(timesL l)[k]? =some (atV l k):=by
 obtain⟨v,e,_,e',_⟩:=atL_some h (show (0:Int)<=k by omega) hk
 rw[atL_eq l k fun r hr=>by have:=(h.each r hr).c0;omega] at e
 rw[e,e']
theorem length_times {l:List RunT} (h:RunsOk l):((timesL l).length:Int)=cnt l:=length_timesL l fun r hr=>by have:=(h.each r hr).c0;omega
theorem mem_times {l:List RunT} (h:RunsOk l) {t:Int} (ht:t∈timesL l):firstT l<=t/\t<=lastT l/\0<=t/\t<=281474976710656:=by
 obtain⟨k,hk⟩:=List.getElem?_of_mem ht
 have hlt:k<(timesL l).length:=by rw[List.getElem?_eq_some_iff] at hk;exact hk.1
 have hl:=length_times h
 rw[at_times h (by omega)] at hk
 simp only[Option.some.injEq] at hk
 subst hk
 have:=at_in h (show (0:Int)<=k by omega) (by omega)
 exact⟨at_mono h (by omega) (by omega) (by omega),at_mono h (by omega) (by omega) (by omega),this.1,this.2⟩
theorem first_in {l:List RunT} (h:RunsOk l):0<=firstT l/\firstT l<=281474976710656:=at_in h (by omega) (by have:=cnt_pos h;omega)
theorem LineSeg.back {s:SegT} (h:LineSeg s) {t:Int} (h1:firstT s.runs<=t) (h2:t<=lastT s.runs):isBack (valAt s t)=true:=by
 have e:=h.ends
 unfold endsOk at e
 simp only[Bool.and_eq_true,isBack_iff] at e
 have:=lineVal_between (A:=s.A) (R:=s.R) (n:=s.n) (d:=s.d) h.line.d0 (show 0<=t-firstT s.runs by omega) (show t-firstT s.runs<=lastT s.runs-firstT s.runs by omega)
 rw[isBack_iff]
 unfold valAt
 omega
def sumP (s:SegT) (P:List RunT):Int:=lsum ((timesL P).map (valAt s))

def partOut (s:SegT) (a b:Int):Array Value×Int:=
 if segB s then
  if clipI s.runs a<clipJ s.runs a b then (partA (slice (vals s) (clipI s.runs a).toNat (clipJ s.runs a b).toNat),0)
  else (#[.int .i64 0,.int .i64 0,.int .i64 0,.int .i64 0,.int .u64 0],9)
 else (#[.int .i64 0,.int .i64 0,.int .i64 0,.int .i64 0,.int .u64 0],210)
theorem segB_runs {s:SegT} (h:segB s=true):RunsOk s.runs:=by
 unfold segB at h
 rw[Bool.and_eq_true] at h
 exact(risesB_iff _).1 h.1
def valI (s:SegT) (i:Int):Int:=((vals s)[i.toNat]?).getD 0
def segAtV (s:SegT) (t:Int):Int:=if segB s then ((findL s.runs t).map (valI s)).getD 0 else 0
def segAtE (s:SegT) (t:Int):Int:=if segB s then (if (findL s.runs t).isSome then 0 else 4) else 210
def CloneR (w:World) (p:Option Addr) (l:List RunT) (e:Ending) (w':World):Prop:=∃p' cap',e= .returned (.slice p' l.length cap')/\Below w.heap.size w w'/\RunsIn w' p' l/\l.length<=cap'/\∀a,p'=some a->w.heap.size<=a.block
def CloneI (w:World) (p:Option Addr) (l:List Int) (e:Ending) (w':World):Prop:=∃p' cap',e= .returned (.slice p' l.length cap')/\Below w.heap.size w w'/\IntsIn w' p' l/\l.length<=cap'/\∀a,p'=some a->w.heap.size<=a.block
theorem clone_below {w w':World} {o:Obj} {n c:Nat} (h:(w.alloc o).grownBy w' (Value.slice (some ⟨w.heap.size,0,none⟩) n c).ownBlock):Below w.heap.size w w':=
 ⟨h.os,h.tape,h.output,by have:=h.size;simp at this;omega,fun k hk=>by
  rw[h.block k (by simp;omega) (by simp[Value.ownBlock];omega)]
  exact Below.heap_alloc w o k hk⟩
theorem ints_flat {w:World} {a:Addr} {l:List Int} (h:IntsIn w (some a) l) (j:Nat) (u:Value) (hu:(l.map (Value.int .i64))[j]? =some u):w.cell? (a.add j)=some u:=by
 simp only[List.getElem?_map,Option.map_eq_some_iff] at hu
 obtain⟨x,hx,rfl⟩:=hu
 obtain⟨b,o,e,hc⟩:=h.at' j x hx
 simp at e
 subst e
 have hadd:(⟨b,o,none⟩:Addr).add j=⟨b,o+j,none⟩:=by unfold Addr.add;split<;>simp_all
 rw[hadd];exact hc
theorem row_take {cur:Array Value} {xs:List Value} {k:Nat} (h:cur.toList.take k=xs) {j:Nat} {u:Value} (hu:xs[j]? =some u):cur[j]? =some u:=by
 rw[<-h,List.getElem?_take] at hu
 split at hu
 ·simpa using hu
 ·cases hu
theorem cloneRun_in {w:World} {g k:Nat} {t:TypeId} {cur:Array Value} {l:List RunT} (hb:w.heap[g]? =some (.cells cur t (0,0))) (ht:cur.toList.take k=flatCells l):RunsIn w (some ⟨g,0,none⟩) l:=⟨fun i r hr=>by
 obtain⟨a,b,c⟩:=flat_at l i r hr
 have k:∀z,w.cell? ⟨g,z,none⟩=cur[z]? :=fun z=>cell_of_row w g z cur t (0,0) hb
 refine⟨g,0,rfl,?_,?_,?_⟩
 ·rw[k,Nat.zero_add];exact row_take ht a
 ·rw[k,Nat.zero_add];exact row_take ht b
 ·rw[k,Nat.zero_add];exact row_take ht c⟩
theorem cloneInt_in {w:World} {g k:Nat} {t:TypeId} {cur:Array Value} {l:List Int} (hb:w.heap[g]? =some (.cells cur t (0,0))) (ht:cur.toList.take k=l.map (Value.int .i64)):IntsIn w (some ⟨g,0,none⟩) l:=⟨fun i x hx=>by
 refine⟨g,0,rfl,?_⟩
 rw[cell_of_row w g _ cur t (0,0) hb,Nat.zero_add]
 exact row_take ht (by simp[hx])⟩
def kindL (A R n d:Int):Int:=if isLine A R n d=true then (if n=0 then 1 else if R=0 then 2 else 3) else 0
theorem RunsIn.set' {w:World} {p:Option Addr} {o i:Nat} {v:Value} {l:List RunT} (h:RunsIn w p l) (hne:∀a,p=some a->a.block≠o):RunsIn (w.setCell ⟨o,i,none⟩ v) p l:=⟨fun k r hr=>by
 obtain⟨b,y,e,h1,h2,h3⟩:=h.at' k r hr
 have hc:∀z,(w.setCell ⟨o,i,none⟩ v).cell? ⟨b,z,none⟩=w.cell? ⟨b,z,none⟩:=by
  intro z
  have:=heap_setCell_other w ⟨o,i,none⟩ b v (hne _ e)
  simp only[World.cell?,this]
 exact⟨b,y,e,(hc _).trans h1,(hc _).trans h2,(hc _).trans h3⟩⟩
theorem IntsIn.set' {w:World} {p:Option Addr} {o i:Nat} {v:Value} {l:List Int} (h:IntsIn w p l) (hne:∀a,p=some a->a.block≠o):IntsIn (w.setCell ⟨o,i,none⟩ v) p l:=⟨fun k r hr=>by
 obtain⟨b,y,e,h1⟩:=h.at' k r hr
 have hc:∀z,(w.setCell ⟨o,i,none⟩ v).cell? ⟨b,z,none⟩=w.cell? ⟨b,z,none⟩:=by
  intro z
  have:=heap_setCell_other w ⟨o,i,none⟩ b v (hne _ e)
  simp only[World.cell?,this]
 exact⟨b,y,e,(hc _).trans h1⟩⟩
theorem IntsIn.rex {w w':World} {p:Option Addr} {l:List Int} (h:IntsIn w p l) (hr:Rex [] w w'):IntsIn w' p l:=h.below hr.below
def CR (B:Nat) (l:List RunT):Spec:=fun v w=>∃p' cap',v= .slice p' l.length cap'/\RunsIn w p' l/\l.length<=cap'/\∀a,p'=some a->B<=a.block
def CI (B:Nat) (l:List Int):Spec:=fun v w=>∃p' cap',v= .slice p' l.length cap'/\IntsIn w p' l/\l.length<=cap'/\∀a,p'=some a->B<=a.block
theorem CR.closed (B:Nat) (l:List RunT):Closed [] (CR B l):=fun _ _ _ hr ⟨p',c',e,h,k⟩=>⟨p',c',e,h.rex hr rfl,k⟩
theorem CI.closed (B:Nat) (l:List Int):Closed [] (CI B l):=fun _ _ _ hr ⟨p',c',e,h,k⟩=>⟨p',c',e,h.rex hr,k⟩
theorem RunsIn.new {w w':World} {p:Option Addr} {l:List RunT} (h:RunsIn w p l) (o i:Nat) (v:Value) (hne:∀a,p=some a->a.block≠o):RunsIn (w.setCell ⟨o,i,none⟩ v) p l:=h.set' hne
section
variable {P:Program} {ops:Array Oper} {C:World->Prop} {X:List (Nat×Nat)} {a0:Act} {Fin:List (Option Tmp×Spec)->Prop} {i:Nat} {o:Oper} {rest:List Oper} {acc:List (Option Tmp×Spec)}
theorem nd_spec (Φ:Spec) (hcl:Closed (others X i) Φ) (hg:o.guard=none) (hal:isAlloc o=false)
  (h:∀(a:Act) (w:World),C w->(∀s∈o.looksAt ops,envOf a0 acc s (a.tmps.getD s undef) w)->∃v,(execOp a.eval o).run P w= .ok (.value v) w/\Φ v w)
  (hr:ndWalk P ops C X a0 Fin (i+1) rest ((o.dst,Φ)::acc)):ndWalk P ops C X a0 Fin i (o::rest) acc:=
 ⟨Φ,hcl,fun a w hC hE=>⟨fun _=>by
  obtain⟨v,h1,h2⟩:=h a w hC hE
  rw[h1];exact⟨Rex.refl _ _,h2,fun e=>by rw[hal] at e;cases e⟩,fun e=>by rw[wanted_none hg] at e;cases e⟩,hr⟩
end
def SV (K A R n d E:Int) (B:Nat) (l:List RunT):Spec:=fun v w=>∃p1 cap1 q1 vc1,v= .agg #[.int .i64 K,.slice p1 l.length cap1,.int .i64 A,.int .i64 R,.int .i64 n,.int .i64 d,.slice q1 0 vc1,.int .i64 E]/\RunsIn w p1 l/\l.length<=cap1/\∀a,p1=some a->B<=a.block
def TV (K A R n d E:Int) (B:Nat) (l:List RunT):Spec:=fun v w=>∃p1 cap1 q1 vc1,v= .tuple #[.agg #[.int .i64 K,.slice p1 l.length cap1,.int .i64 A,.int .i64 R,.int .i64 n,.int .i64 d,.slice q1 0 vc1,.int .i64 E],.int .i64 0]/\RunsIn w p1 l/\l.length<=cap1/\∀a,p1=some a->B<=a.block
theorem SV.closed (K A R n d E:Int) (B:Nat) (l:List RunT):Closed [] (SV K A R n d E B l):=fun _ _ _ hr ⟨p',c',q',v',e,h,k⟩=>⟨p',c',q',v',e,h.rex hr rfl,k⟩
theorem TV.closed (K A R n d E:Int) (B:Nat) (l:List RunT):Closed [] (TV K A R n d E B l):=fun _ _ _ hr ⟨p',c',q',v',e,h,k⟩=>⟨p',c',q',v',e,h.rex hr rfl,k⟩
def outOf (s:SegT) (i j:Int):Array Value×Int:=if i<j then (partA (slice (vals s) i.toNat j.toNat),0) else (#[.int .i64 0,.int .i64 0,.int .i64 0,.int .i64 0,.int .u64 0],9)
end Go.Proofs.YtpdhdjlhicceoaaGreatDoor
namespace Go.Proofs.YtpdhdjlhicceoaaGreatDoor
open Go.RowKit Go.Shelf
attribute [local go_sem] Oper.semAt_some
theorem wpIn_scope {P:Program} {n:Nat} {c:Code} {Q:Exit->Act->World->Prop} {a:Act} {w:World} (h:c.wpIn Fence.wide n P (Exit.noGoto Q) a w):(Code.scope c).wpIn Fence.wide n P Q a w:=wpIn_wide.2 (wp_scope_straight (wpIn_wide.1 h))
theorem wpIn_lab {F:Fence} {P:Program} {n l:Nat} {c:Code} {Q:Exit->Act->World->Prop} {a:Act} {w:World} (h:c.wpIn F n P Q a w):((Code.label l).seq c).wpIn F n P Q a w:=wpIn_seq (wpIn_label h)
def KeepsT (t:TypeId) (A B:World):Prop:=∀(b:Nat) (cs:Array Value) (f:Nat×Nat),A.heap[b]? =some (.cells cs t f)->B.heap[b]? =some (.cells cs t f)
theorem KeepsT.refl (t:TypeId) (A:World):KeepsT t A A:=fun _ _ _ h=>h
theorem KeepsT.trans {t:TypeId} {A B C:World} (h:KeepsT t A B) (k:KeepsT t B C):KeepsT t A C:=fun b cs f hb=>k b cs f (h b cs f hb)
theorem times_step {l:List RunT} {k:Nat} {r:RunT} (hr:l[k]? =some r):timesL (l.take (k+1))=timesL (l.take k)++timesR r:=by
 rw[List.take_add_one,hr,timesL_append]
 simp[timesL]
theorem timesR_step {r:RunT} {j:Nat} (h:(j:Int)<r.c):(timesR r).take (j+1)=(timesR r).take j++ [r.f+r.s*(j:Int)]:=by
 rw[List.take_add_one,timesR_at r j h]
 rfl
theorem times_room {l:List RunT} {k j:Nat} {r:RunT} (hr:l[k]? =some r) (h:(j:Int)<r.c):(timesL (l.take k)++(timesR r).take j).length<(timesL l).length:=by
 have e:timesL l=timesL (l.take (k+1))++timesL (l.drop (k+1)):=by rw[<-timesL_append,List.take_append_drop]
 rw[e,times_step hr]
 have:=length_timesR r
 simp
 omega
theorem times_pre {l:List RunT} {k j:Nat} {r:RunT} (hr:l[k]? =some r):timesL (l.take k)++(timesR r).take j<+:timesL l:=by
 have e:timesL l=timesL (l.take (k+1))++timesL (l.drop (k+1)):=by rw[<-timesL_append,List.take_append_drop]
 rw[e,times_step hr]
 exact⟨(timesR r).drop j++timesL (l.drop (k+1)),by rw[List.append_assoc,<-List.append_assoc (List.take j _),List.take_append_drop,List.append_assoc]⟩
theorem all1_in (n:Nat) (hn:1<=n) (lr Bs n₀:Nat) (p:Option Addr) (cap:Nat) (l:List RunT) (hl:∀r,r∈l->RunOk r) (hlen:l.length<=256) (Kp:World->World->Prop) (hK:∀ {A B},Kp A B->Below n₀ A B/\KeepsT 69 A B)
  (J Jx:List Int->World->Prop) (B0:Nat) (hJ:AbidesFrom B0 J)
  (hY:∀pre x W,J pre W->pre.length<(timesL l).length->YieldAt Fence.wide (n-1) Tryz.prog lr #[.int .i64 x] W fun e W'=>(e= .returned (.bool true)/\J (pre++ [x]) W'/\Kp W W')∨(e= .returned (.bool false)/\Jx (pre++ [x]) W'))
  (W:World) (hBs:W.cell? ⟨Bs,0,none⟩=some (.slice p l.length cap)) (hR:RunsIn W p l) (hn₀:∀a,p=some a->a.block<n₀) (hn1:n₀<=W.heap.size) (h0:J [] W):
  CallsIn Fence.wide n Tryz.prog 191 #[.func (.yield lr) #[] #[],.pointer (some ⟨Bs,0,none⟩)] W fun e W'=>(∃v,e= .returned v)/\((∃ys,ys=timesL l/\J ys W')∨(∃pre,pre<+:timesL l/\Jx pre W')):=by
 refine callsIn_of_wp Tryz.func191 rfl trivial ?_ rfl
 simp only[Tryz.ntmps191,List.size_toArray,List.length_cons,List.length_nil,Nat.reduceAdd,Nat.reduceSub,Array.replicate_succ,Array.replicate_zero,List.push_toArray,List.append_toArray,List.nil_append,List.cons_append]
 refine wpIn_scope (wpIn_lab ?_)
 gi_wp2
 gi_loopw [8] (fun i wr=>∃k:Nat,k<=l.length/\i= .int .i64 k/\J (timesL (l.take k)) wr/\Below n₀ W wr/\W.heap.size<=wr.heap.size) (fun i _=>l.length-(intOf i).toNat)
 case atStart=>exact⟨0,Nat.zero_le _,rfl,h0,Below.refl _ _,Nat.le_refl _⟩
 case round=>
  obtain⟨k,hk,rfl,hJs,hnx,hsz⟩:=hrel
  obtain⟨wo,rfl⟩:∃wo:World,wo=wr:=⟨_,rfl⟩
  rcases Nat.lt_or_ge k l.length with hlt|hge
  ·obtain⟨r,hri⟩:∃r,l[k]? =some r:=⟨l[k]'(by omega),List.getElem?_eq_getElem (by omega)⟩
   have hr:=hl r (List.mem_of_getElem? hri)
   obtain⟨b,o,rfl,k0,k1,k2⟩:=hR.at' k r hri
   have hbl:b<n₀:=hn₀ _ rfl
   have q0:wo.cell? ⟨b,o+k*3,none⟩=some (.int .i64 r.f):=(hnx.cell (p:=⟨b,o+k*3,none⟩) hbl).trans k0
   have q1:wo.cell? ⟨b,o+k*3+1,none⟩=some (.int .i64 r.s):=(hnx.cell (p:=⟨b,o+k*3+1,none⟩) hbl).trans k1
   have q2:wo.cell? ⟨b,o+k*3+2,none⟩=some (.int .i64 r.c):=(hnx.cell (p:=⟨b,o+k*3+2,none⟩) hbl).trans k2
   clear k0 k1 k2
   have r1:=hr.f0;have r2:=hr.f1;have r3:=hr.s0;have r4:=hr.s1;have r5:=hr.c0;have r6:=hr.c1;have r7:=lastI_le hr;have r8:=hr.last
   gi_wp2
   gi_loopw [14] (fun j wr=>∃m:Nat,(m:Int)<=r.c/\j= .int .i64 m/\J (timesL (l.take k)++(timesR r).take m) wr/\Below n₀ W wr/\W.heap.size<=wr.heap.size/\Blk wr wo.heap.size #[.int .i64 r.f,.int .i64 r.s,.int .i64 r.c] 69) (fun j _=>r.c.toNat-(intOf j).toNat)
   case atStart=>exact⟨0,by omega,rfl,by simpa using hJ _ _ _ none hJs (World.grownBy_alloc wo _ none) (fun r e=>by cases e),hnx.alloc (by omega) _,by simp;omega,Blk.new' rfl⟩
   case round=>
    obtain⟨m,hm,rfl,hJm,hnm,hsm,hb⟩:=hrel
    have kb:=hb.cell
    have fb:=hb.frozen
    by_cases hmc:(m:Int)<r.c
    ·have m0:0<=r.s*(m:Int):=Int.mul_nonneg r3 (by omega)
     have m1:r.f+r.s*(m:Int)<=lastI r:=run_at_le hr (by omega)
     obtain⟨fn,tmps,assign,body,hy,hR'⟩:=hY _ (r.f+r.s*(m:Int)) wr hJm (times_room hri hmc)
     gi_wp2
     refine hR'.mono ?_
     rintro e W3 (⟨rfl,hJ3,hk3⟩|⟨rfl,hJx3⟩)
     ·obtain⟨g1,g2⟩:=hK hk3
      have g3:=g1.size
      gi_wp2
      go_roundw
      case rel=>exact⟨m+1,by omega,by simp,by rw[timesR_step hmc,<-List.append_assoc];exact hJ3,hnm.trans g1,by omega,g2 _ _ _ hb⟩
      case measure=>simp[intOf];omega
     ·gi_wp2
      simp only[Exit.noGoto]
      refine bodyPost_end (results_none rfl _ _ _) rfl ?_
      exact⟨⟨_,rfl⟩,.inr ⟨_,by rw[List.append_assoc,<-timesR_step hmc];exact times_pre hri,hJx3⟩⟩
    ·have e:(m:Int)=r.c:=by omega
     have et:(timesR r).take m=timesR r:=List.take_of_length_le (by rw[length_timesR];omega)
     rw[et,<-times_step hri] at hJm
     gi_wp2
     go_roundw
     case rel=>exact⟨k+1,by omega,by simp,hJm,hnm,hsm⟩
     case measure=>simp[intOf];omega
  ·obtain rfl:k=l.length:=by omega
   rw[List.take_length] at hJs
   gi_wp2
   simp only[Exit.noGoto]
   refine bodyPost_end (results_none rfl _ _ _) rfl ?_
   exact⟨⟨_,rfl⟩,.inl ⟨_,rfl,hJs⟩⟩
theorem keepsT_appended {W w1:World} {n₀ B:Nat} {t e T:TypeId} {size:Nat} {v v':Value} {k:Nat} {xs:List Value} {tmp:Obj} (hv:Boxed W B t v) (hrow:W.ownsRow n₀ e size v k xs) (hgrow:(W.alloc tmp).grownBy w1 v.ownBlock) (h1:T≠t) (h2:T≠e):KeepsT T W (w1.setCell ⟨B,0,none⟩ v'):=by
 intro b cs f hb
 have hlt:=lt_of_heap hb
 have e1:b≠B:=by
  rintro rfl
  rw[show W.heap[b]? =_ from hv] at hb
  injection hb with hb
  injection hb with _ h _
  exact h1 h.symm
 rw[Below.heap_setCell w1 ⟨B,0,none⟩ v' b e1]
 rw[hgrow.block b (by simp;omega) ?_,Below.heap_alloc W tmp b hlt]
 ·exact hb
 ·rcases hrow.2 with⟨rfl,_⟩|⟨g,cap,cur,rfl,_,hgb,_⟩
  ·simp[Value.ownBlock]
  ·intro e'
   obtain rfl:b=g:=by simpa [Value.ownBlock] using e'
   rw[hgb] at hb
   injection hb with hb
   injection hb with _ h _
   exact h2 h.symm
theorem appendSeqI (gf:Nat) (lb:Array Value) (xs:List Int) (hlen:xs.length<=1000000) (w w0:World) (hw0:Below w0.heap.size w0 w) (Kp:World->World->Prop) (enters:∀args w,(callFunc gf args).run Tryz.prog w= .ok (.enter gf args) w)
  (hKp:∀ {A B},Below w.heap.size A B->(∀T,T≠47->T≠2->KeepsT T A B)->Kp A B) (hKt:∀ {A B C},Kp A B->Kp B C->Kp A C) (hKb:∀(W:World) (l:Nat) (o o':Obj),w.heap.size<=l->W.heap[l]? =some o->o.isCells=false->o.isWalk=false->Kp W (W.putObj l o'))
  (hseq:SeqStopsK Fence.wide 2 Tryz.prog gf lb (fun x:Int=> #[Value.int .i64 x]) Kp (fun ys=>ys=xs) (fun pre=>pre<+:xs) xs.length w0):
  CallsIn Fence.wide 3 Tryz.prog 190 #[.slice none 0 0,.func (.func gf) #[] lb] w fun e W'=>∃v,e= .returned v/\W'.ownsRow w.heap.size 2 1 v xs.length (xs.map (Value.int .i64))/\Below w.heap.size w W':=by
 obtain⟨i0,hi,hz0,hz1,hz2⟩:=info_parts Tryz.infoInt
 refine callsIn_of_wp_marks Tryz.func190 rfl trivial ?_ rfl
 simp only[Tryz.ntmps190,List.size_toArray,List.length_cons,List.length_nil,Nat.reduceAdd,Nat.reduceSub,Array.replicate_succ,Array.replicate_zero,List.push_toArray,List.append_toArray,List.nil_append,List.cons_append]
 gi_wp2
 have bO:=Boxed.new w 47 (.slice none 0 0)
 have hB0:Below w.heap.size w (w.alloc (.cells #[.slice none 0 0] 47)):=(Below.refl _ w).alloc (Nat.le_refl _) _
 refine wpIn_rangeFunc_ownG rfl (by omega) (gf:=gf) (lb:=lb) rfl trivial enters hseq hKt (fun W l o o' hl=>hKb W l o o' (by simp at hl;omega)) (hw0.trans (hB0.mono hw0.size)) (fun _=>rfl)
  (fun pre W=>(∃v,Boxed W w.heap.size 47 v/\W.ownsRow w.heap.size 2 1 v pre.length (pre.map (Value.int .i64))/\True)/\Below w.heap.size w W)
  (fun _ _ _=>False)
  (OwnFrom.and (Own.from (holdsRow_own w.heap.size w.heap.size 47 2 1 (fun pre:List Int=>pre.length) (fun pre=>pre.map (Value.int .i64)) (fun _ _=>True)) _) (ownFrom_below (Nat.le_refl _) (by simp)))
  (fun _ _ _ _ _ hs _ _=>hs)
  ⟨⟨_,bO,World.ownsRow_nil _ _ _ _,trivial⟩,hB0⟩
  (fun x=> {tmps:= #[.slice none 0 0,.func (.func gf) #[] lb,.pointer (some ⟨w.heap.size,0,none⟩),undef,.slice none 0 0,.int .i64 x,.func (.func gf) #[] lb,.int .i64 x,undef,undef,undef,undef,undef],defers:= []}) ?assign ?body ?done ?stop
 case assign=>
  intro l x W K hK
  gi_wp2
  exact hK
 case body=>
  rintro l pre x W ⟨⟨v,hv,hrow,_⟩,hB⟩ hlt
  have hc:=hv.cell
  gi_wp2_with (gi_at_builtin;refine wpListIn_append_own _ rfl _ _ 47 rfl w.heap.size 2 i0 (.int .i64 0) 1 8 (by kernel_rfl) hi hz0 hz1 hz2 rfl (by decide) _ _ _ rfl (hrow.alloc _) ⟨W.heap.size,0,none⟩ 1 1 [.int .i64 x] rfl rfl (cell_one_new _ _ _) (by simp[Value.oneCell']) (by simp[maxLen];omega) (by omega) (by have:=hB.size;simp;omega) ?_;intro v' w1 hown' hgrow _;obtain⟨g',cap',rfl⟩:=ownsRow_succ hown';obtain⟨hv1,hv2,hr2,hk2,hb2⟩:=hv.appended (by decide) hrow hB.size (Nat.le_refl _) hown' hgrow;have hkt:=fun T h1 h2=>keepsT_appended (v':= .slice (some ⟨g',0,none⟩) (pre.length+1) cap') (T:=T) hv hrow hgrow h1 h2;have hc1:=hv1.cell;have hf1:=hv1.frozen)
  exact⟨hk2.from _,hKp hb2 hkt,⟨_,hv2,by simpa using hr2,trivial⟩,hB.trans hb2⟩
 case done=>
  rintro D ys W hD rfl ⟨⟨v,hv,hrow,_⟩,hB⟩ hK
  have hc:=hv.cell
  gi_wp2
  refine⟨by simp,.inl ⟨_,_,rfl,run_takeDeferred hK,?_⟩⟩
  exact⟨_,results_tmp rfl _ _ _,v,rfl,ownsRow_putObj hrow _ hK rfl,hB.trans (belowK_b (w:=w) (Nat.le_refl _) W D _ _ (by simp at hD;omega) hK rfl rfl)⟩
 case stop=>
  rintro D c pre W _ _ h _
  exact h.elim
end Go.Proofs.YtpdhdjlhicceoaaGreatDoor
