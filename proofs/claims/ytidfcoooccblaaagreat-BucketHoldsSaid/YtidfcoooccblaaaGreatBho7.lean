/- Parts of the proof that follows. No condition. -/
import Derived.Laws.AppendOwnNone
import Derived.Test.YtidfcoooccblaaaGreatBho6
set_option maxRecDepth 100000
set_option maxHeartbeats 8000000
set_option linter.unusedSimpArgs false
set_option linter.unusedVariables false
namespace Go.Proofs.YtidfcoooccblaaaGreat
open Go.RowKit Go.Shelf
theorem G9 {W:World} {b b':Nat} {e:TypeId} {s:Nat} {v:Value} {k:Nat} {xs:List Value} (h:W.ownsRow b e s v k xs) (hb:b'<=b):W.ownsRow b' e s v k xs:=by
 obtain⟨h1,h2|⟨g,cap,cur,e1,hg,r⟩⟩:=h
 ·exact⟨h1,.inl h2⟩
 ·exact⟨h1,.inr ⟨g,cap,cur,e1,Nat.le_trans hb hg,r⟩⟩
theorem E7 {T:TypeId} {W:World} {l:Nat} {o:Obj} (o':Obj) (hl:W.heap[l]? =some o) (ho:o.isCells=false):Dg T W (W.putObj l o'):=by
 intro b cs f hb
 rw[World.putObj_heap_other]
 ·exact hb
 ·rintro rfl
  rw[hb] at hl
  cases hl
  cases ho
theorem Hq {T:TypeId} {A B:World} (h:Below A.heap.size A B):Dg T A B:=fun b cs f hb=>(h.block b (Cf hb)).trans hb
theorem collectI (gf:Nat) (lb:Array Value) (xs:List Int) (hlen:xs.length<=1000000) (w w0:World) (hw0:Below w0.heap.size w0 w) (Kp:World->World->Prop) (enters:∀args w,(callFunc gf args).run Tryz.prog w= .ok (.enter gf args) w)
  (hKp:∀ {A B},Below w.heap.size A B->(∀T,T≠96->T≠2->Dg T A B)->Kp A B) (hKt:∀ {A B C},Kp A B->Kp B C->Kp A C) (hKb:∀(W:World) (l:Nat) (o o':Obj),w.heap.size<=l->W.heap[l]? =some o->o.isCells=false->o.isWalk=false->Kp W (W.putObj l o'))
  (hseq:SeqStopsK Fence.wide 2 Tryz.prog gf lb (fun x:Int=> #[Value.int .i64 x]) Kp (fun ys=>ys=xs) (fun pre=>pre<+:xs) xs.length w0):
  Calls Tryz.prog 162 #[.func (.func gf) #[] lb] w fun e W'=>∃v,e= .returned v/\W'.ownsRow w.heap.size 2 1 v xs.length (xs.map (Value.int .i64))/\Below w.heap.size w W':=by
 have c1:=Hd (callsIn_wide.1 (Ve gf lb xs hlen w w0 hw0 Kp enters hKp hKt hKb hseq))
 clear hKp hKt hKb hseq enters hw0
 go_enter Tryz.func162,Tryz.ntmps162
 go_wp2_with fail
 refine c1.out.mono ?_
 rintro e w1 ⟨v,rfl,hv,hB⟩
 replace hv:=Hd hv
 replace hB:=Hd hB
 go_wp2
 go_ret
 exact⟨v,rfl,hv.out,hB.out⟩
theorem all_w (p:Option Addr) (len cap:Nat) (w:World):Calls Tryz.prog 163 #[.slice p len cap] w fun e w'=>e= .returned (.func (.func 191) #[] #[.pointer (some ⟨w.heap.size,0,none⟩)])/\w'=w.alloc (.cells #[.slice p len cap] 93):=by
 have hmf:∀(fn:Fn) (first cap:Array Value) (w:World),(Instr.makeFunc fn first cap).run Tryz.prog w= .ok (.func fn first cap) w:=fun _ _ _ _=>rfl
 go_enter Tryz.func163,Tryz.ntmps163
 go_wp2
 go_ret
 exact⟨rfl,rfl⟩
def Tn (w:World) (l:List Af) (e:Ending) (w':World):Prop:=∃v,e= .returned (.tuple #[v,.int .i64 0])/\w'.ownsRow w.heap.size 2 1 v (Ae l).length ((Ae l).map (Value.int .i64))/\Below w.heap.size w w'
theorem Oy (p:Option Addr) (cap:Nat) (l:List Af) (w:World) (Bs:Nat) (hl:B9 l) (h:Ai w p l) (hBs:Blk w Bs #[.slice p l.length cap] 93):
  Calls Tryz.prog 162 #[.func (.func 191) #[] #[.pointer (some ⟨Bs,0,none⟩)]] w fun e W'=>∃v,e= .returned v/\W'.ownsRow w.heap.size 2 1 v (Ae l).length ((Ae l).map (Value.int .i64))/\Below w.heap.size w W':=by
 have hlt:∀a,p=some a->a.block<w.heap.size:=by
  rintro a rfl
  have:=hl.some'
  obtain⟨b,o,e,k0,_⟩:=h.at' 0 (l[0]'(by omega)) (List.getElem?_eq_getElem (by omega))
  cases e
  exact Br k0
 have hcnt:=hl.count
 have hlen:=Bp hl
 refine collectI 191 _ (Ae l) (by omega) w w (Below.refl _ _) (fun A B=>Below w.heap.size A B/\Dg 144 A B) (enters_of Tryz.func191 (by kernel_rfl) rfl)
  (fun hb hk=>⟨hb,hk _ (by decide) (by decide)⟩) (fun h k=>⟨h.1.trans k.1,h.2.trans k.2⟩) (fun W k o o' hk ho h1 h2=>⟨belowK_b (Nat.le_refl _) W k o o' hk ho h1 h2,E7 o' ho h1⟩) ?_
 intro lr J Jx W hW hJ _ hY h0
 exact all1_in 2 (by omega) lr Bs w.heap.size p cap l hl.each (by have:=hl.few;omega) _ (fun h=>h) J Jx _ hJ hY W ((hBs.below hW).cell 0) (h.below hW) hlt hW.size h0
theorem Rf (p:Option Addr) (cap:Nat) (l:List Af) (w:World) (hl:B9 l) (h:Ai w p l):Calls Tryz.prog 114 #[.slice p l.length cap] w (Tn w l):=by
 have hlen:=hl.few
 have c1:=fun W (hW:Below w.heap.size w W)=>Ju p cap l W (by omega) (h.below hW)
 rw[(Dp l).2 hl] at c1
 have c2:=Hd (fun W Bs (hW:Below w.heap.size w W) (hb:Blk W Bs #[.slice p l.length cap] 93)=>Oy p cap l W Bs hl (h.below hW) hb)
 have H_c1:=Hd c1
 clear c1
 go_enter Tryz.func114,Tryz.ntmps114
 have c1:=H_c1.out
 go_wp2_with fail
 refine(c1 _ (Aa)).mono ?_
 rintro e w1 ⟨rfl,hb1⟩
 clear c1
 have z1:=hb1.size
 go_wp2_with fail
 refine(all_w _ _ _ _).mono ?_
 rintro e w2 ⟨rfl,rfl⟩
 go_wp2_with fail
 refine(c2.out _ _ (Aa) (Blk.new' rfl)).mono ?_
 rintro e w3 ⟨v,rfl,hv,hB⟩
 replace hv:=Hd hv
 have hBB:Hid (Below w.heap.size w w3):=Hd (Aa)
 clear hB
 go_wp2
 refine bodyPost_ret (v:= .tuple #[v,.int .i64 0]) (by simp[results,Tryz.results114,go_sem]) rfl ⟨v,rfl,G9 hv.out (by simp;omega),hBB.out⟩
attribute [local go_sem] Oper.semAt_some
def B2 (s:A4):List (Int×Int):=(Ae s.runs).zip (Fa s)
theorem Ew {s:A4} (hs:Cw s=true):((B2 s).length:Int)=cnt s.runs:=by
 have h1:=Bp (Bj hs)
 have h2:=F9 hs
 unfold B2
 simp
 omega
theorem pts_at {s:A4} (hs:Cw s=true) {k:Nat} (hk:(k:Int)<cnt s.runs):∃t,(Ae s.runs)[k]? =some t/\(B2 s)[k]? =some (t,Ov s k):=by
 have h1:=Bp (Bj hs)
 have h2:=F9 hs
 refine⟨(Ae s.runs)[k]'(by omega),List.getElem?_eq_getElem _,?_⟩
 unfold B2 Ov
 rw[List.getElem?_eq_getElem (by simp;omega),List.getElem_zip]
 simp
 rw[List.getElem?_eq_getElem (by omega)]
 rfl
theorem By {β:Type} {B:Nat} {J:β->World->Prop} (hJ:AbidesFrom B J) {s:β} {A C:World} (h:J s A) (hb:Below A.heap.size A C):J s C:=
 hJ s A C none h ⟨hb.os,hb.tape,hb.output,hb.size,fun i hi _=>hb.block i hi⟩ (fun r e=>by cases e)
structure KeepsPts (s:A4) (p q:Option Addr) (cap vc Bs n₀:Nat) (A B:World):Prop where
 size:A.heap.size<=B.heap.size
 seg:Cs A s p q->Cs B s p q
 box:Blk A Bs (C7 s p q cap vc) 179->Blk B Bs (C7 s p q cap vc) 179
 nums:∀(b:Nat) (cs:Array Value),n₀<=b->Blk A b cs 2->Blk B b cs 2
theorem T9 (n:Nat) (hn:1<=n) (lr Bs n₀:Nat) (s:A4) (p q:Option Addr) (cap vc:Nat) (hs:Cw s=true) (Kp:World->World->Prop) (hK:∀ {A B},Kp A B->KeepsPts s p q cap vc Bs n₀ A B)
  (J Jx:List (Int×Int)->World->Prop) (B0:Nat) (hJ:AbidesFrom B0 J)
  (hY:∀pre x W,J pre W->pre.length<(B2 s).length->YieldAt Fence.wide (n-1) Tryz.prog lr #[.agg #[x.1,x.2]] W fun e W'=>(e= .returned (.bool true)/\J (pre++ [x]) W'/\Kp W W')∨(e= .returned (.bool false)/\Jx (pre++ [x]) W'))
  (W:World) (hBs:Blk W Bs (C7 s p q cap vc) 179) (hin:Cs W s p q) (hn₀:n₀<=W.heap.size) (h0:J [] W):
  CallsIn Fence.wide n Tryz.prog 154 #[.func (.yield lr) #[] #[],.pointer (some ⟨Bs,0,none⟩)] W fun e W'=>(∃v,e= .returned v)/\((∃ys,ys=B2 s/\J ys W')∨(∃pre,pre<+:B2 s/\Jx pre W')):=by
 have hl:=Bj hs
 have ct:=fun W' (hW:Below W.heap.size W W')=>Rf p cap s.runs W' hl (hin.runs.below hW)
 have hlen:=Hd (Ew hs)
 have hlt:=Bp hl
 have hcnt:=Da hl
 have hBs':=hBs
 unfold C7 at hBs'
 have k:=hBs'.cell
 refine callsIn_of_wp Tryz.func154 rfl trivial ?_ rfl
 simp only[Tryz.ntmps154,List.size_toArray,List.length_cons,List.length_nil,Nat.reduceAdd,Nat.reduceSub,Array.replicate_succ,Array.replicate_zero,List.push_toArray,List.append_toArray,List.nil_append,List.cons_append]
 have hmf:∀(fn:Fn) (first cap:Array Value) (w:World),(Instr.makeFunc fn first cap).run Tryz.prog w= .ok (.func fn first cap) w:=fun _ _ _ _=>rfl
 refine G3 ?_
 gi_wp2_with (refine⟨trivial,?_⟩;gi_at_call 114;refine(callsIn_wide.2 (ct _ (Aa))).mono ?_;rintro e w1 ⟨v,rfl,hv,hB⟩)
 clear k ct
 obtain⟨N,hN⟩:∃N,(Ae s.runs).length=N+1:=⟨(Ae s.runs).length-1,by omega⟩
 rw[hN] at hv
 obtain⟨_,h2|⟨g,cap',cur,rfl,hg,hb,hnc,_,hc,htk⟩⟩:=hv
 ·omega
 have hs0:=hB.size
 have hin1:=hin.below hB
 have hbs1:=hBs.below hB
 have hJ1:=By hJ h0 hB
 have htk':cur.toList.take ((N+1)*1)=(Ae s.runs).map (Value.int .i64):=htk
 have HN:=Hd hN
 clear hs0 htk hBs' hN hlt
 clear hBs hin h0 hB
 refine wpIn_label ?_
 gi_wp2
 gi_loopw [19] (fun i wr=>∃k:Nat,k<=N+1/\i= .int .i64 k/\J ((B2 s).take k) wr/\Cs wr s p q/\Blk wr Bs (C7 s p q cap vc) 179/\Blk wr g cur 2) (fun i _=>N+1-(intOf i).toNat)
 case atStart=>exact⟨0,Nat.zero_le _,rfl,hJ1,hin1,hbs1,hb⟩
 case round=>
  obtain⟨k,hk,rfl,hJk,hik,hbk,hgk⟩:=hrel
  rcases Nat.lt_or_ge k (N+1) with hlk|hge
  ·have hkc:(k:Int)<cnt s.runs:=by have:=Bp hl;have:=HN.out;omega
   obtain⟨t,ht1,ht2⟩:=pts_at hs hkc
   have hcell:wr.cell? ⟨g,k,none⟩=some (t):=by rw[cell_of_row wr g k cur _ (0,0) hgk];exact Ee htk' (by simp[ht1])
   have cv:=Hd (U5 s p q cap vc k wr hik hs (by omega) hkc)
   replace ht1:=Hd ht1
   replace ht2:=Hd ht2
   replace htk':=Hd htk'
   have hst:(B2 s).take (k+1)=(B2 s).take k++ [(t,Ov s k)]:=by rw[List.take_add_one,ht2.out];rfl
   have Hst:=Hd hst
   have hroom:((B2 s).take k).length<(B2 s).length:=by have:=hlen.out;simp;omega
   clear hst
   gi_wp2_with (refine⟨trivial,?_⟩;gi_at_call 155;refine(callsIn_wide.2 cv.out).mono ?_;rintro e w2 ⟨rfl,hb2⟩;obtain⟨fn,tmps,assign,body,hy,hR⟩:=hY _ (t,Ov s k) w2 (By hJ hJk hb2) hroom;dsimp only at hy)
   refine hR.mono ?_
   rintro e W3 (⟨rfl,hJ3,hk3⟩|⟨rfl,hJx3⟩)
   ·have hkp:=hK hk3
    gi_wp2
    go_roundw
    case rel=>exact⟨k+1,by omega,by simp,by rw[Hst.out];exact hJ3,hkp.seg (hik.below hb2),hkp.box (hbk.below hb2),hkp.nums g cur (by omega) (hgk.below hb2)⟩
    case measure=>simp[intOf];omega
   ·gi_wp2
    simp only[Exit.noGoto]
    refine bodyPost_end (results_none rfl _ _ _) rfl ?_
    exact⟨⟨_,rfl⟩,.inr ⟨_,by rw[<-Hst.out];exact List.take_prefix _ _,hJx3⟩⟩
  ·obtain rfl:k=N+1:=by omega
   have e:(B2 s).take (N+1)=B2 s:=List.take_of_length_le (by have:=hlen.out;have:=HN.out;have:=Bp hl;omega)
   rw[e] at hJk
   clear e
   gi_wp2
   simp only[Exit.noGoto]
   refine bodyPost_end (results_none rfl _ _ _) rfl ?_
   exact⟨⟨_,rfl⟩,.inl ⟨_,rfl,hJk⟩⟩
def Ar (l:List (Int×Int)):List Value:=l.flatMap fun x=> [.int .i64 x.1,.int .i64 x.2]
theorem Ej (l:List (Int×Int)) (x:Int×Int):Ar (l++ [x])=Ar l++ [.int .i64 x.1,.int .i64 x.2]:=by simp[Ar]
theorem Tryz.infoPoint :(Tryz.prog.info? 91).map (fun i=>(i.zero,i.size,i.bytes))=some (some (.agg #[.int .i64 0,.int .i64 0]),2,16):=by kernel_rfl
theorem Em (W:World) (a b:Value) (t:TypeId) (j:Nat) (u:Value) (h: [a,b][j]? =some u):(W.alloc (.cells #[a,b] t)).cell? ((⟨W.heap.size,0,none⟩:Addr).add j)=some u:=by
 have hb:Blk (W.alloc (.cells #[a,b] t)) W.heap.size #[a,b] t:=Blk.new' rfl
 have hadd:(⟨W.heap.size,0,none⟩:Addr).add j=⟨W.heap.size,j,none⟩:=by unfold Addr.add;split<;>simp_all
 rw[hadd,hb.cell]
 simpa using h
theorem D0 {β:Type} (B:Nat) (t:TypeId) (f:β->Array Value):Own (fun s W=>Blk W B (f s) t):=fun s X Y row hs hg hrow=>by
 refine(hg.block B hs.lt fun e=> ?_).trans hs
 obtain⟨o,ho,hc⟩:=hrow B e.symm
 rw[show X.heap[B]? =_ from hs] at ho;cases ho;cases hc
theorem Vd (gf:Nat) (lb:Array Value) (xs:List (Int×Int)) (hlen:xs.length<=1000000) (w w0:World) (hw0:Below w0.heap.size w0 w) (Kp:World->World->Prop) (enters:∀args w,(callFunc gf args).run Tryz.prog w= .ok (.enter gf args) w)
  (hKp:∀ {A B},Below w.heap.size A B->(∀T,T≠23->T≠91->Dg T A B)->Kp A B) (hKt:∀ {A B C},Kp A B->Kp B C->Kp A C) (hKb:∀(W:World) (l:Nat) (o o':Obj),w.heap.size<=l->W.heap[l]? =some o->o.isCells=false->o.isWalk=false->Kp W (W.putObj l o'))
  (hseq:SeqStopsK Fence.wide 2 Tryz.prog gf lb (fun x:Int×Int=> #[Value.agg #[.int .i64 x.1,.int .i64 x.2]]) Kp (fun ys=>ys=xs) (fun pre=>pre<+:xs) xs.length w0):
  CallsIn Fence.wide 3 Tryz.prog 153 #[.slice none 0 0,.func (.func gf) #[] lb] w fun e W'=>∃v,e= .returned v/\W'.ownsRow w.heap.size 91 2 v xs.length (Ar xs)/\Below w.heap.size w W':=by
 obtain⟨i0,hi,hz0,hz1,hz2⟩:=info_parts Tryz.infoPoint
 refine callsIn_of_wp_marks Tryz.func153 rfl trivial ?_ rfl
 simp only[Tryz.ntmps153,List.size_toArray,List.length_cons,List.length_nil,Nat.reduceAdd,Nat.reduceSub,Array.replicate_succ,Array.replicate_zero,List.push_toArray,List.append_toArray,List.nil_append,List.cons_append]
 gi_wp2
 have bO:=Boxed.new w 23 (.slice none 0 0)
 have hB0:Below w.heap.size w (w.alloc (.cells #[.slice none 0 0] 23)):=(Below.refl _ w).alloc (Nat.le_refl _) _
 refine wpIn_rangeFunc_ownH rfl (by omega) (gf:=gf) (lb:=lb) rfl trivial enters hseq hKt (fun W l o o' hl=>hKb W l o o' (by simp at hl;omega)) (hw0.trans (hB0.mono hw0.size)) (fun _=>rfl)
  (fun pre W=>(∃v,Boxed W w.heap.size 23 v/\W.ownsRow w.heap.size 91 2 v pre.length (Ar pre)/\True)/\Below w.heap.size w W)
  (fun _ _ _=>False)
  (OwnFrom.and (Own.from (holdsRow_own w.heap.size w.heap.size 23 91 2 (fun pre:List (Int×Int)=>pre.length) (fun pre=>Ar pre) (fun _ _=>True)) _) (ownFrom_below (Nat.le_refl _) (by simp)))
  (fun _ _ _ _ _ hs _ _=>hs)
  ⟨⟨_,bO,World.ownsRow_nil _ _ _ _,trivial⟩,hB0⟩
  (fun x a' W=>∃Bx,w.heap.size<Bx/\Blk W Bx #[.int .i64 x.1,.int .i64 x.2] 91/\a'= {tmps:= #[.slice none 0 0,.func (.func gf) #[] lb,.pointer (some ⟨w.heap.size,0,none⟩),undef,.slice none 0 0,.pointer (some ⟨Bx,0,none⟩),.func (.func gf) #[] lb,.agg #[.int .i64 x.1,.int .i64 x.2],undef,undef,undef,undef,undef],defers:= []})
  (fun x a' _ X Y row hs hg hr=>by obtain⟨Bx,h1,h2,h3⟩:=hs;exact⟨Bx,h1,D0 Bx 91 (fun(_:Unit)=> #[Value.int .i64 x.1,.int .i64 x.2]) () X Y row h2 hg (fun r e=>(hr r e).2),h3⟩) ?assign ?body ?done ?stop
 case assign=>
  rintro l pre x W K ⟨⟨v,hv,hrow,_⟩,hB⟩ hK
  gi_wp2
  exact hK _ _ ((KeepsOthers.alloc _ _).from _) (hKp ((Below.refl _ W).alloc hB.size _) (fun T _ _=>Hq ((Below.refl _ _).alloc (Nat.le_refl _) _))) ⟨⟨v,hv.alloc _,hrow.alloc _,trivial⟩,hB.alloc hB.size _⟩ ⟨W.heap.size,hv.lt,Blk.new' rfl,rfl⟩
 case body=>
  rintro l pre x a' W hl ⟨r,hr⟩ ⟨⟨v,hv,hrow,_⟩,hB⟩ ⟨Bx,hBx,bX,rfl⟩ hlt
  have hc:=hv.cell
  have kx:=bX.cell
  gi_wp2_with (gi_at_builtin;refine wpListIn_append_own _ rfl _ _ 23 rfl w.heap.size 91 i0 (.agg #[.int .i64 0,.int .i64 0]) 2 16 (by kernel_rfl) hi hz0 hz1 hz2 rfl (by decide) _ _ _ rfl (hrow.alloc _) ⟨W.heap.size,0,none⟩ 1 1 [.int .i64 x.1,.int .i64 x.2] rfl rfl (Em _ _ _ _) (by simp[Value.oneCell']) (by simp[maxLen];omega) (by omega) (by have:=hB.size;simp;omega) ?_;intro v' w1 hown' hgrow _;obtain⟨g',cap',rfl⟩:=ownsRow_succ hown';obtain⟨hv1,hv2,hr2,hk2,hb2⟩:=hv.appended (by decide) hrow hB.size (Nat.le_refl _) hown' hgrow;have hkt:=fun T h1 h2=>Ff (v':= .slice (some ⟨g',0,none⟩) (pre.length+1) cap') (T:=T) hv hrow hgrow h1 h2;have hc1:=hv1.cell;have hf1:=hv1.frozen)
  exact⟨hk2.from _,hKp hb2 hkt,⟨_,hv2,by rw[Ej];simpa using hr2,trivial⟩,hB.trans hb2⟩
 case done=>
  rintro D ys W hD rfl ⟨⟨v,hv,hrow,_⟩,hB⟩ hK
  have hc:=hv.cell
  gi_wp2
  refine⟨by simp,.inl ⟨_,_,rfl,run_takeDeferred hK,?_⟩⟩
  exact⟨_,results_tmp rfl _ _ _,v,rfl,ownsRow_putObj hrow _ hK rfl,hB.trans (belowK_b (w:=w) (Nat.le_refl _) W D _ _ (by simp at hD;omega) hK rfl rfl)⟩
 case stop=>
  rintro D c pre W _ _ h _
  exact h.elim
theorem collectP (gf:Nat) (lb:Array Value) (xs:List (Int×Int)) (hlen:xs.length<=1000000) (w w0:World) (hw0:Below w0.heap.size w0 w) (Kp:World->World->Prop) (enters:∀args w,(callFunc gf args).run Tryz.prog w= .ok (.enter gf args) w)
  (hKp:∀ {A B},Below w.heap.size A B->(∀T,T≠23->T≠91->Dg T A B)->Kp A B) (hKt:∀ {A B C},Kp A B->Kp B C->Kp A C) (hKb:∀(W:World) (l:Nat) (o o':Obj),w.heap.size<=l->W.heap[l]? =some o->o.isCells=false->o.isWalk=false->Kp W (W.putObj l o'))
  (hseq:SeqStopsK Fence.wide 2 Tryz.prog gf lb (fun x:(Int×Int)=> #[Value.agg #[.int .i64 x.1,.int .i64 x.2]]) Kp (fun ys=>ys=xs) (fun pre=>pre<+:xs) xs.length w0):
  Calls Tryz.prog 102 #[.func (.func gf) #[] lb] w fun e W'=>∃v,e= .returned v/\W'.ownsRow w.heap.size 91 2 v xs.length (Ar xs)/\Below w.heap.size w W':=by
 have c1:=Hd (callsIn_wide.1 (Vd gf lb xs hlen w w0 hw0 Kp enters hKp hKt hKb hseq))
 clear hKp hKt hKb hseq enters hw0
 go_enter Tryz.func102,Tryz.ntmps102
 go_wp2_with fail
 refine c1.out.mono ?_
 rintro e w1 ⟨v,rfl,hv,hB⟩
 replace hv:=Hd hv
 replace hB:=Hd hB
 go_wp2
 go_ret
 exact⟨v,rfl,hv.out,hB.out⟩
theorem Zm (K A R n d E:Int) (p q:Option Addr) (len cap m vc:Nat) (w:World):Calls Tryz.prog 103 #[.agg #[.int .i64 K,.slice p len cap,.int .i64 A,.int .i64 R,.int .i64 n,.int .i64 d,.slice q m vc,.int .i64 E]] w fun e w'=>e= .returned (.func (.func 154) #[] #[.pointer (some ⟨w.heap.size,0,none⟩)])/\w'=w.alloc (.cells #[.int .i64 K,.slice p len cap,.int .i64 A,.int .i64 R,.int .i64 n,.int .i64 d,.slice q m vc,.int .i64 E] 179):=by
 have hmf:∀(fn:Fn) (first cap:Array Value) (w:World),(Instr.makeFunc fn first cap).run Tryz.prog w= .ok (.func fn first cap) w:=fun _ _ _ _=>rfl
 go_enter Tryz.func103,Tryz.ntmps103
 go_wp2
 go_ret
 exact⟨rfl,rfl⟩
theorem Ai.keep {w A B:World} {p:Option Addr} {l:List Af} (h:Ai w p l) (hb:Below w.heap.size A B) (ha:Ai A p l):Ai B p l:=⟨fun i r hr=>by
 obtain⟨b,o,e,k0,k1,k2⟩:=ha.at' i r hr
 obtain⟨b',o',e',q0,_⟩:=h.at' i r hr
 rw[e] at e'
 injection e' with e'
 injection e' with e1 e2
 subst e1
 have hlt:=Br q0
 exact⟨b,o,e,(hb.cell (p:=⟨b,_,none⟩) hlt).trans k0,(hb.cell (p:=⟨b,_,none⟩) hlt).trans k1,(hb.cell (p:=⟨b,_,none⟩) hlt).trans k2⟩⟩
theorem Au.keep {w A B:World} {p:Option Addr} {l:List Int} (h:Au w p l) (hb:Below w.heap.size A B) (ha:Au A p l):Au B p l:=⟨fun i r hr=>by
 obtain⟨b,o,e,k0⟩:=ha.at' i r hr
 obtain⟨b',o',e',q0⟩:=h.at' i r hr
 rw[e] at e'
 injection e' with e'
 injection e' with e1 e2
 subst e1
 exact⟨b,o,e,(hb.cell (p:=⟨b,_,none⟩) (Br q0)).trans k0⟩⟩
theorem Cs.keep {w A B:World} {s:A4} {p q:Option Addr} (h:Cs w s p q) (hb:Below w.heap.size A B) (ha:Cs A s p q):Cs B s p q:=⟨h.runs.keep hb ha.runs,h.raw.keep hb ha.raw,h.fewR,h.fewV⟩
theorem Of (s:A4) (p q:Option Addr) (cap vc:Nat) (w:World) (Bs:Nat) (hs:Cw s=true) (h:Cs w s p q) (hBs:Blk w Bs (C7 s p q cap vc) 179):
  Calls Tryz.prog 102 #[.func (.func 154) #[] #[.pointer (some ⟨Bs,0,none⟩)]] w fun e W'=>∃v,e= .returned v/\W'.ownsRow w.heap.size 91 2 v (B2 s).length (Ar (B2 s))/\Below w.heap.size w W':=by
 have hcnt:=Da (Bj hs)
 have hlen:=Ew hs
 have hlt:=hBs.lt
 refine collectP 154 _ (B2 s) (by omega) w w (Below.refl _ _) (fun A B=>Below w.heap.size A B/\Dg 2 A B) (enters_of Tryz.func154 (by kernel_rfl) rfl)
  (fun hb hk=>⟨hb,hk _ (by decide) (by decide)⟩) (fun h k=>⟨h.1.trans k.1,h.2.trans k.2⟩) (fun W k o o' hk ho h1 h2=>⟨belowK_b (Nat.le_refl _) W k o o' hk ho h1 h2,E7 o' ho h1⟩) ?_
 intro lr J Jx W hW hJ _ hY h0
 exact T9 2 (by omega) lr Bs W.heap.size s p q cap vc hs (fun A B=>Below w.heap.size A B/\Dg 2 A B) (fun hk=>⟨hk.1.size,fun ha=>h.keep hk.1 ha,fun ha=>(hk.1.block Bs hlt).trans ha,fun b cs _ ha=>hk.2 b cs _ ha⟩) J Jx _ hJ hY W (hBs.below hW) (h.below hW) (Nat.le_refl _) h0
def Oo (s:A4) (B:Nat) (v:Value) (w:World):Prop:=w.ownsRow B 91 2 v (B2 s).length (Ar (B2 s))
theorem Yl (s:A4) (p q:Option Addr) (cap vc:Nat) (w:World) (hs:Cw s=true) (h:Cs w s p q):
  Calls Tryz.prog 101 #[.agg (C7 s p q cap vc)] w fun e w'=>∃v,e= .returned (.tuple #[v,.int .i64 0])/\Oo s w.heap.size v w'/\Below w.heap.size w w':=by
 have c2:=Hd (fun W Bs (hW:Below w.heap.size w W) (hb:Blk W Bs (C7 s p q cap vc) 179)=>Of s p q cap vc W Bs hs (h.below hW) hb)
 unfold C7 at c2⊢
 go_enter Tryz.func101,Tryz.ntmps101
 go_wp2_with fail
 refine(Zm _ _ _ _ _ _ _ _ _ _ _ _ _).mono ?_
 rintro e w2 ⟨rfl,rfl⟩
 go_wp2_with fail
 refine(c2.out _ _ (Aa) (Blk.new' (by simp))).mono ?_
 rintro e w3 ⟨v,rfl,hv,hB⟩
 replace hv:=Hd hv
 have hBB:Hid (Below w.heap.size w w3):=Hd (Aa)
 clear hB
 go_wp2
 refine bodyPost_ret (v:= .tuple #[v,.int .i64 0]) (by simp[results,Tryz.results101,go_sem]) rfl ⟨v,rfl,G9 hv.out (by simp<;>omega),hBB.out⟩
end Go.Proofs.YtidfcoooccblaaaGreat
namespace Go.Proofs.YtidfcoooccblaaaGreat
open Go.RowKit
theorem ofp_yes (K A R n d E:Int) (p q:Option Addr) (len cap m vc:Nat) (w:World) (s:A4)
  (c1:∀W,Below w.heap.size w W->Cb 150 #[.agg #[K,.slice p len cap,A,R,n,d,.slice q m vc,E]] W (.bool true))
  (c3:∀W,Below w.heap.size w W->Calls Tryz.prog 101 #[.agg #[K,.slice p len cap,A,R,n,d,.slice q m vc,E]] W fun e w'=>∃v,e= .returned (.tuple #[v,.int .i64 0])/\Oo s W.heap.size v w'/\Below W.heap.size W w'):
  Calls Tryz.prog 100 #[.agg #[K,.slice p len cap,A,R,n,d,.slice q m vc,E],.func (.func 101) #[] #[]] w fun e w'=>∃v,e= .returned (.tuple #[v,.int .i64 0])/\Oo s w.heap.size v w'/\Below w.heap.size w w':=by
 have H_c1:=Hd c1
 clear c1
 have H_c3:=Hd c3
 clear c3
 go_enter Tryz.func100,Tryz.ntmps100
 go_upto_region 1 with(fail)
 refine Ac w (Bc w.heap.size #[K,.slice p len cap,A,R,n,d,.slice q m vc,E] 98<|Bz) ?_
 rintro W1 hW z2 ⟨⟨b1,yb1,k1,f1⟩,-⟩
 go_wp2_with fail
 refine(H_c1.out _ (Aa)).mono ?_
 rintro e w3 ⟨rfl,hb3⟩
 have z4:=hb3.size
 try simp at z4
 clear k1 f1
 refine Ad w w3 (Bc w.heap.size #[K,.slice p len cap,A,R,n,d,.slice q m vc,E] 98<|Bz) ?_
 clear b1 hW
 rintro hW z5 ⟨⟨b1,yb1,k1,f1⟩,-⟩
 clear hb3
 go_wp2_with fail
 refine(H_c3.out _ (Aa)).mono ?_
 rintro e w6 ⟨v,rfl,hv,hb6⟩
 have z7:=hb6.size
 try simp at z7
 clear k1 f1
 refine Ad w w6 (Bc w.heap.size #[K,.slice p len cap,A,R,n,d,.slice q m vc,E] 98<|Bz) ?_
 clear b1 hW
 rintro hW z8 ⟨⟨b1,yb1,k1,f1⟩,-⟩
 replace hv:=Hd hv
 go_wp2
 refine bodyPost_ret (v:= .tuple #[v,.int .i64 0]) (by simp[results,Tryz.results100,go_sem]) rfl ⟨v,rfl,G9 hv.out (by omega),Aa⟩
theorem T8 (K A R n d E:Int) (p q:Option Addr) (len cap m vc:Nat) (w:World) (s:A4)
  (c1:∀W,Below w.heap.size w W->Calls Tryz.prog 100 #[.agg #[K,.slice p len cap,A,R,n,d,.slice q m vc,E],.func (.func 101) #[] #[]] W fun e w'=>∃v,e= .returned (.tuple #[v,.int .i64 0])/\Oo s W.heap.size v w'/\Below W.heap.size W w'):
  Calls Tryz.prog 47 #[.agg #[K,.slice p len cap,A,R,n,d,.slice q m vc,E]] w fun e w'=>∃v,e= .returned (.tuple #[v,.int .i64 0])/\Oo s w.heap.size v w'/\Below w.heap.size w w':=by
 have H_c1:=Hd c1
 clear c1
 go_enter Tryz.func47,Tryz.ntmps47
 go_upto_region 1 with(fail)
 refine Ac w (Bc w.heap.size #[K,.slice p len cap,A,R,n,d,.slice q m vc,E] 98<|Bz) ?_
 rintro W1 hW z2 ⟨⟨b1,yb1,k1,f1⟩,-⟩
 go_wp2_with fail
 refine(H_c1.out _ (Aa)).mono ?_
 rintro e w3 ⟨v,rfl,hv,hb3⟩
 have z4:=hb3.size
 try simp at z4
 clear k1 f1
 refine Ad w w3 (Bc w.heap.size #[K,.slice p len cap,A,R,n,d,.slice q m vc,E] 98<|Bz) ?_
 clear b1 hW
 rintro hW z5 ⟨⟨b1,yb1,k1,f1⟩,-⟩
 replace hv:=Hd hv
 go_wp2
 refine bodyPost_ret (v:= .tuple #[v,.int .i64 0]) (by simp[results,Tryz.results47,go_sem]) rfl ⟨v,rfl,G9 hv.out (by omega),Aa⟩
theorem c_Points (s:A4) (p q:Option Addr) (cap vc:Nat) (w:World) (h:Cs w s p q) (hs:Cw s=true):
  Calls Tryz.prog 47 #[.agg (C7 s p q cap vc)] w fun e w'=>∃v,e= .returned (.tuple #[v,.int .i64 0])/\Oo s w.heap.size v w'/\Below w.heap.size w w':=by
 refine T8 _ _ _ _ _ _ p q _ cap _ vc w s fun W hW=>ofp_yes _ _ _ _ _ _ p q _ cap _ vc W s (fun W' hW'=> ?_) (fun W' hW'=>Yl s p q cap vc W' hs ((h.below hW).below hW'))
 have:=Ln s p q cap vc W' ((h.below hW).below hW')
 rw[hs] at this
 exact this
structure A5 (w:World) (p:Option Addr) (l:List (Int×Int)):Prop where
 at':∀(i:Nat) (x:Int×Int),l[i]? =some x->∃b o,p=some ⟨b,o,none⟩/\w.cell? ⟨b,o+i*2,none⟩=some (x.1)/\w.cell? ⟨b,o+i*2+1,none⟩=some (x.2)
theorem A5.below {w w':World} {p:Option Addr} {l:List (Int×Int)} (h:A5 w p l) (hb:Below w.heap.size w w'):A5 w' p l:=⟨fun i r hr=>by
 obtain⟨b,o,e,h1,h2⟩:=h.at' i r hr
 exact⟨b,o,e,(hb.cell (p:=⟨b,_,none⟩) (Br h1)).trans h1,(hb.cell (p:=⟨b,_,none⟩) (Br h1)).trans h2⟩⟩
theorem A5.alloc {w:World} {p:Option Addr} {l:List (Int×Int)} (h:A5 w p l) (o:Obj):A5 (w.alloc o) p l:=h.below ((Below.refl _ _).alloc (Nat.le_refl _) o)
theorem A5.calls {w w':World} {p:Option Addr} {l:List (Int×Int)} (h:A5 w p l) (hb:Below w.heap.size w w'):A5 w' p l:=h.below hb
theorem A5.set' {w:World} {p:Option Addr} {o i:Nat} {v:Value} {l:List (Int×Int)} (h:A5 w p l) (hne:∀a,p=some a->a.block≠o):A5 (w.setCell ⟨o,i,none⟩ v) p l:=⟨fun k r hr=>by
 obtain⟨b,y,e,h1,h2⟩:=h.at' k r hr
 have hc:∀z,(w.setCell ⟨o,i,none⟩ v).cell? ⟨b,z,none⟩=w.cell? ⟨b,z,none⟩:=by
  intro z
  have:=heap_setCell_other w ⟨o,i,none⟩ b v (hne _ e)
  simp only[World.cell?,this]
 exact⟨b,y,e,(hc _).trans h1,(hc _).trans h2⟩⟩
theorem A5.set {w:World} {g x o i:Nat} {v:Value} {l:List (Int×Int)} (h:A5 w (some ⟨g,x,none⟩) l) (hne:g≠o):A5 (w.setCell ⟨o,i,none⟩ v) (some ⟨g,x,none⟩) l:=h.set' fun a e=>by cases e;exact hne
theorem A5.drew {w:World} {p:Option Addr} {l:List (Int×Int)} (h:A5 w p l):A5 w.drew p l:=⟨h.at'⟩
theorem A5.rex {L:List Nat} {w w':World} {p:Option Addr} {l:List (Int×Int)} (h:A5 w p l) (hr:Rex L w w') (hL:L= []):A5 w' p l:=by subst hL;exact h.below hr.below
theorem Od :∀(l:List (Int×Int)) (i:Nat) (x:Int×Int),l[i]? =some x->(Ar l)[i*2]? =some (x.1)/\(Ar l)[i*2+1]? =some (x.2)
 | [],i,x,h=>by simp at h
 |y::l,0,x,h=>by
  simp at h
  subst h
  exact⟨rfl,rfl⟩
 |y::l,i+1,x,h=>by
  obtain⟨a,b⟩:=Od l i x (by simpa using h)
  have e:Ar (y::l)= .int .i64 y.1:: .int .i64 y.2::Ar l:=rfl
  rw[e,show (i+1)*2=i*2+1+1 by omega]
  exact⟨by simpa using a,by simpa using b⟩
theorem pts_is {s:A4} {B:Nat} {v:Value} {w:World} (h:Oo s B v w) (hn:0<(B2 s).length):∃g cap cur,v= .slice (some ⟨g,0,none⟩) (B2 s).length cap/\B<=g/\(B2 s).length<=cap/\cap<=maxLen/\Blk w g cur 91/\cur.size=cap*2/\cur.toList.take ((B2 s).length*2)=Ar (B2 s):=by
 obtain⟨_,h2|⟨g,cap,cur,e,hg,hb,hnc,hm,hc,htk⟩⟩:=h
 ·omega
 ·exact⟨g,cap,cur,e,hg,hnc,hm,hb,hc,htk⟩
theorem Kn {w:World} {g n:Nat} {t:TypeId} {cur:Array Value} {l:List (Int×Int)} (hb:Blk w g cur t) (ht:cur.toList.take n=Ar l):A5 w (some ⟨g,0,none⟩) l:=⟨fun i x hx=>by
 obtain⟨a,b⟩:=Od l i x hx
 refine⟨g,0,rfl,?_,?_⟩
 ·rw[hb.cell,Nat.zero_add];exact Ee ht a
 ·rw[hb.cell,Nat.zero_add];exact Ee ht b⟩
def Ja (a b:Int) (x:Int×Int):Bool:=decide (a<=x.1)&&decide (x.1<=b)
def K7 (a b:Int) (l:List (Int×Int)):List Int:=(l.filter (Ja a b)).map (·.2)
theorem Fm {α:Type} (pr:α->Bool):∀(l:List α) (i j:Nat),(∀k x,l[k]? =some x->(pr x=true↔i<=k/\k<j))->l.filter pr=(l.take j).drop i
 | [],i,j,_=>by simp
 |y::l,i,j,h=>by
  have h0:=h 0 y rfl
  cases j with
  |zero=>
   have ih:=Fm pr l 0 0 (fun k x hx=>(h (k+1) x (by simpa using hx)).trans (by omega))
   have hp:pr y=false:=by
    cases hy:pr y with
    |false=>rfl
    |true=>have:=h0.1 hy;omega
   simp[List.filter_cons,hp]
   simpa using ih
  |succ j=>
   cases i with
   |zero=>
    have ih:=Fm pr l 0 j (fun k x hx=>(h (k+1) x (by simpa using hx)).trans (by omega))
    have hp:pr y=true:=h0.2 ⟨Nat.le_refl _,by omega⟩
    simp[List.filter_cons,hp,ih]
   |succ i=>
    have ih:=Fm pr l i j (fun k x hx=>(h (k+1) x (by simpa using hx)).trans (by omega))
    have hp:pr y=false:=by
     cases hy:pr y with
     |false=>rfl
     |true=>have:=h0.1 hy;omega
    simp[List.filter_cons,hp,ih]
theorem Ng {s:A4} (hs:Cw s=true):(B2 s).map (·.2)=Fa s:=by
 have h1:=Bp (Bj hs)
 have h2:=F9 hs
 unfold B2
 rw[List.map_snd_zip]
 omega
theorem Xh {s:A4} (hs:Cw s=true) {k:Nat} {x:Int×Int} (h:(B2 s)[k]? =some x):(Ae s.runs)[k]? =some x.1/\(Fa s)[k]? =some x.2:=by
 unfold B2 at h
 rw[List.getElem?_zip_eq_some] at h
 exact h
theorem Wt {s:A4} (hs:Cw s=true) (a b:Int):K7 a b (B2 s)=if Gu s.runs a<Hr s.runs a b then slice (Fa s) (Gu s.runs a).toNat (Hr s.runs a b).toNat else []:=by
 have hl:=Bj hs
 obtain⟨i0,i1,i2⟩:=Jn s.runs a hl.each hl.chain
 obtain⟨j0,j1,j2⟩:=Jn s.runs (b+1) hl.each hl.chain
 have hcb:=Q5 hl a b
 have key:∀k x,(B2 s)[k]? =some x->(Ja a b x=true↔(Gu s.runs a).toNat<=k/\k<(Hr s.runs a b).toNat):=by
  intro k x hx
  obtain⟨t1,_⟩:=Xh hs hx
  have e1:=i2 k x.1 t1
  have e2:=j2 k x.1 t1
  have hk:(k:Int)<cnt s.runs:=by
   have:=Bp hl
   have:=(List.getElem?_eq_some_iff.1 t1).1
   omega
  have hm:=Rw s.runs hl x.1 (List.mem_of_getElem? t1)
  simp only[Ja,Bool.and_eq_true,decide_eq_true_eq]
  unfold Gu Hr
  split
  ·omega
  ·split<;>omega
 have:=Fm (Ja a b) (B2 s) _ _ key
 unfold K7
 rw[this]
 split
 ·rw[List.map_drop,List.map_take,Ng hs]
  rfl
 ·rw[List.drop_eq_nil_of_le (by simp;omega)]
  rfl
theorem Sf {s:A4} (hs:Cw s=true) (a b:Int):Dv s a b=if K7 a b (B2 s)= [] then (#[.int .i64 0,.int .i64 0,.int .i64 0,.int .i64 0,.int .u64 0],9) else (Lc (K7 a b (B2 s)),0):=by
 have hl:=Bj hs
 have hcb:=Q5 hl a b
 have hlv:=F9 hs
 rw[Wt hs a b]
 unfold Dv
 rw[if_pos hs]
 by_cases h:Gu s.runs a<Hr s.runs a b
 ·rw[if_pos h,if_pos h,if_neg (Zc (by omega) (by omega))]
 ·rw[if_neg h,if_neg h,if_pos rfl]
structure A3 where
 name:ByteArray
 eps:Int
 floor:Int
 last:Int
 scale:Int
 segs:List A4
 opn:List (Int×Int)
def Lf (r:Nat):Bool:=decide (97<=r/\r<=122)||decide (48<=r/\r<=57)
def Eh (s:ByteArray):Nat->Nat->Bool
 |0,_=>true
 |f+1,pos=>if pos<s.size then Lf (Utf8.decode s pos).1&&Eh s f (pos+(Utf8.decode s pos).2) else true
def Mo (s:ByteArray):Bool:=decide (1<=s.size/\s.size<=12)&&Eh s s.size 0
def Do (s:A3):List Int:=s.segs.flatMap (fun x=>Ae x.runs)++s.opn.map (·.1)
def btw (n lo hi:Int):Bool:=decide (lo<=n)&&decide (n<=hi)
def N5 (s:A3):Bool:=Mo s.name&&(btw s.eps 0 1099511627776&&(btw s.scale (-40) 40&&(btw s.floor 0 281474976710656&&btw s.last (-1) 281474976710656)))
def Ly:Int->List A4->Bool
 |_,[]=>true
 |b,x::l=>Cw x&&(decide (b<Bm x.runs)&&Ly (Db x.runs) l)
def L7 (eps floor:Int) (x:A4):Bool:=decide (x.E<=eps)&&decide (floor<=Db x.runs)
def L8 (floor:Int) (p:Int×Int):Bool:=btw p.1 floor 281474976710656&&btw p.2 (-2305843009213693952) 2305843009213693952
def F4:Int->List Int->Bool
 |_,[]=>true
 |b,t::l=>decide (b<t)&&F4 t l
def Ft:Int->List Int->Int
 |b,[]=>b
 |_,t::l=>Ft t l
def Po (s:A3):Nat:=((Do s).filter fun t=>decide (s.floor<=t)).length
def Sr (s:A3):Bool:=decide (Ft (-1) (Do s)<0)||(s.last==Ft (-1) (Do s))
def Bv (s:A3):Bool:=N5 s&&(Ly (-1) s.segs&&(decide (s.opn.length<32)&&(s.segs.all (L7 s.eps s.floor)&&(s.opn.all (L8 s.floor)&&(F4 (-1) (Do s)&&(Sr s&&decide (Po s<=1024)))))))
def Du (s:A3):Int:=if Bv s=true then 0 else 340
theorem Nx :∀ {l:List A4} {b:Int},Ly b l=true->∀x,x∈l->Cw x=true
 | [],_,_,x,h=>by simp at h
 |y::l,b,hr,x,h=>by
  simp only[Ly,Bool.and_eq_true] at hr
  simp only[List.mem_cons] at h
  rcases h with rfl|h
  ·exact hr.1
  ·exact Nx hr.2.2 x h
theorem Ny :∀(l:List Int) (b t:Int),F4 b (l++ [t])=(F4 b l&&decide (Ft b l<t))
 | [],b,t=>by simp[F4,Ft]<;>rfl
 |y::l,b,t=>by simp only[List.cons_append,F4,Ft];rw[Ny l,Bool.and_assoc]<;>rfl
theorem Mr :∀(l:List Int) (b t:Int),Ft b (l++ [t])=t
 | [],_,_=>rfl
 |_::l,_,_=>by simp only[List.cons_append,Ft];exact Mr l _ _
theorem Qc {pre l:List Int} (h:pre<+:l) (b:Int) (hf:F4 b pre=false):F4 b l=false:=by
 obtain⟨t,rfl⟩:=h
 induction pre generalizing b with
 |nil=>simp[F4] at hf
 |cons y l ih=>
  simp only[List.cons_append,F4] at hf⊢
  cases hd:decide (b<y) with
  |false=>rfl
  |true=>rw[hd] at hf;simp only[Bool.true_and] at hf⊢;exact ih _ hf
def R6 (a b:Int) (x:A4):List (Int×Int×Int):=((B2 x).filter (Ja a b)).map fun p=>(p.1,p.2,x.E)
def Vz (a b:Int) (l:List (Int×Int)):List (Int×Int×Int):=(l.filter (Ja a b)).map fun p=>(p.1,p.2,0)
def Mh (s:A3) (a b:Int):List (Int×Int×Int):=s.segs.flatMap (R6 (mx a s.floor) b)++Vz (mx a s.floor) b s.opn
def Dw (a b:Int) (x:A4):List (List Int×Int):=if K7 a b (B2 x)= [] then [] else [(K7 a b (B2 x),x.E)]
def C5 (a b:Int) (l:List (Int×Int)):List (List Int×Int):=(l.filter (Ja a b)).map fun p=>([p.2],0)
def Kc (s:A3) (a b:Int):List (List Int×Int):=s.segs.flatMap (Dw (mx a s.floor) b)++C5 (mx a s.floor) b s.opn
def pairs (g:List Int×Int):List (Int×Int):=g.1.map fun v=>(v,g.2)
theorem T5 (a b:Int) (x:A4):(Dw a b x).flatMap pairs=(R6 a b x).map (·.2):=by
 unfold Dw R6
 have e:(K7 a b (B2 x)).map (fun v=>(v,x.E))=(((B2 x).filter (Ja a b)).map fun p=>(p.1,p.2,x.E)).map (·.2):=by
  unfold K7
  simp[List.map_map,Function.comp_def]
 split
 ·rename_i h
  rw[<-e,h];rfl
 ·simp[pairs,<-e]
theorem Ud (a b:Int) (l:List (Int×Int)):(C5 a b l).flatMap pairs=(Vz a b l).map (·.2):=by
 unfold C5 Vz
 induction l.filter (Ja a b) with
 |nil=>rfl
 |cons x l ih=>simp only[List.map_cons,List.flatMap_cons,ih];rfl
theorem Se (s:A3) (a b:Int):(Kc s a b).flatMap pairs=(Mh s a b).map (·.2):=by
 unfold Kc Mh
 rw[List.flatMap_append,List.map_append,Ud]
 congr 1
 induction s.segs with
 |nil=>rfl
 |cons x l ih=>simp only[List.flatMap_cons,List.flatMap_append,List.map_append,ih,T5]
def loL (l:List (Int×Int)):List Int:=l.map fun x=>x.1-x.2
def hiL (l:List (Int×Int)):List Int:=l.map fun x=>x.1+x.2
def shA (l:List (Int×Int)):Array Value:= #[.int .i64 l.length,.int .i64 (Aw (loL l)),.int .i64 (Aw (hiL l)),.int .i64 (Ay (loL l)),.int .i64 (Ay (hiL l)),.int .i64 (hiW (Ak (loL l))),.int .u64 (loW (Ak (loL l))),.int .i64 (hiW (Ak (hiL l))),.int .u64 (loW (Ak (hiL l)))]
def Dx (s:A3) (a b:Int):List (Int×Int):=(Mh s a b).map (·.2)
def Cg (s:A3) (a b:Int):Int:=if Bv s=true then (if Mh s a b= [] then 9 else 0) else 340
def At (s:A3) (a b:Int):List (Int×Int):=if Bv s=true then Dx s a b else []
theorem Hb (l:List Int) (d:Int) (h:l≠ []):Aw (l.map fun v=>v+d)=Aw l+d:=by
 obtain⟨a,b⟩:=C8 h
 refine Ql (List.mem_map.2 ⟨_,a,rfl⟩) fun v hv=> ?_
 obtain⟨u,hu,rfl⟩:=List.mem_map.1 hv
 have:=b u hu
 omega
theorem Hc (l:List Int) (d:Int) (h:l≠ []):Ay (l.map fun v=>v+d)=Ay l+d:=by
 obtain⟨a,b⟩:=C9 h
 refine Qn (List.mem_map.2 ⟨_,a,rfl⟩) fun v hv=> ?_
 obtain⟨u,hu,rfl⟩:=List.mem_map.1 hv
 have:=b u hu
 omega
theorem He (l:List Int) (d:Int):Ak (l.map fun v=>v+d)=Ak l+d*l.length:=by
 induction l with
 |nil=>simp[Ak]
 |cons x l ih=>simp only[List.map_cons,Ak,ih,List.length_cons,Int.natCast_add,Int.mul_add];omega
theorem Pk (g:List Int) (d:Int):loL (pairs (g,d))=g.map fun v=>v+ -d:=by unfold loL pairs;rw[List.map_map];congr 1
theorem Pp (g:List Int) (d:Int):hiL (pairs (g,d))=g.map fun v=>v+d:=by unfold hiL pairs;rw[List.map_map];congr 1
theorem Uh (a b:List (Int×Int)):loL (a++b)=loL a++loL b:=by unfold loL;simp
theorem Us (a b:List (Int×Int)):hiL (a++b)=hiL a++hiL b:=by unfold hiL;simp
theorem Lg (g:List Int) (d:Int):(pairs (g,d)).length=g.length:=by simp[pairs]
theorem Je {l:List (Int×Int)} (h:l≠ []):loL l≠ []:=by unfold loL;simpa using h
theorem Jf {l:List (Int×Int)} (h:l≠ []):hiL l≠ []:=by unfold hiL;simpa using h
theorem Ws {g:List Int} (d:Int) (hg:g≠ []):shA ([]++pairs (g,d))= #[.int .i64 (0+g.length),.int .i64 (Aw g-d),.int .i64 (Aw g+d),.int .i64 (Ay g-d),.int .i64 (Ay g+d),.int .i64 (hiW (0+(Ak g-d*g.length))),.int .u64 (loW (0+(Ak g-d*g.length))),.int .i64 (hiW (0+(Ak g+d*g.length))),.int .u64 (loW (0+(Ak g+d*g.length)))]:=by
 unfold shA
 rw[List.nil_append,Pk,Pp,Hb _ _ hg,Hb _ _ hg,Hc _ _ hg,Hc _ _ hg,He,He,Lg,Int.neg_mul]
 simp only[Int.zero_add,Int.sub_eq_add_neg]
theorem Zh {l:List (Int×Int)} {g:List Int} (d:Int) (hl:l≠ []) (hg:g≠ []):shA (l++pairs (g,d))= #[.int .i64 (l.length+g.length),.int .i64 (min (Aw (loL l)) (Aw g-d)),.int .i64 (min (Aw (hiL l)) (Aw g+d)),.int .i64 (max (Ay (loL l)) (Ay g-d)),.int .i64 (max (Ay (hiL l)) (Ay g+d)),.int .i64 (hiW (Ak (loL l)+(Ak g-d*g.length))),.int .u64 (loW (Ak (loL l)+(Ak g-d*g.length))),.int .i64 (hiW (Ak (hiL l)+(Ak g+d*g.length))),.int .u64 (loW (Ak (hiL l)+(Ak g+d*g.length)))]:=by
 have h1:∀d,(g.map fun v=>v+d)≠ []:=fun d=>by simpa using hg
 unfold shA
 rw[Uh,Us,Pk,Pp,Mp (Je hl) (h1 _),Mp (Jf hl) (h1 _),Mq (Je hl) (h1 _),Mq (Jf hl) (h1 _),De,De,Hb _ _ hg,Hb _ _ hg,Hc _ _ hg,Hc _ _ hg,He,He,List.length_append,Lg,Int.neg_mul,Int.natCast_add]
 simp only[Int.sub_eq_add_neg]
def l0:List Af:= [⟨10,2,4⟩]
def s0:A4:=⟨2,l0,5,0,1,2,[],3⟩
theorem ints_nil (w:World) (q:Option Addr):Au w q []:=⟨fun i x h=>by simp at h⟩

def TyP (w:World) (p:Option Addr) (T:TypeId):Prop:=∀a,p=some a->∃cur fz,w.heap[a.block]? =some (.cells cur T fz)
theorem TyP.below {w w':World} {p:Option Addr} {T:TypeId} (h:TyP w p T) (hb:Below w.heap.size w w'):TyP w' p T:=fun a e=>by
 obtain⟨cur,fz,hh⟩:=h a e
 exact⟨cur,fz,(hb.block a.block (Array.getElem?_eq_some_iff.1 hh).1).trans hh⟩
theorem TyP.alloc {w:World} {p:Option Addr} {T:TypeId} (h:TyP w p T) (o:Obj):TyP (w.alloc o) p T:=h.below ((Below.refl _ _).alloc (Nat.le_refl _) o)
theorem TyP.setCell {w:World} {p:Option Addr} {T:TypeId} (h:TyP w p T) (a:Addr) (v:Value):TyP (w.setCell a v) p T:=fun b e=>by
 obtain⟨cur,fz,hh⟩:=h b e
 by_cases hb:b.block=a.block
 ·refine⟨if a.spot.isSome then cur else cur.setIfInBounds a.off v,fz,?_⟩
  simp only[World.setCell,Array.getElem?_modify]
  rw[if_pos hb.symm,hh];rfl
 ·exact⟨cur,fz,(heap_setCell_other w a b.block v hb).trans hh⟩
theorem TyP.new {w:World} {cs:Array Value} {T:TypeId} {g:Nat} (h:w.heap.size=g):TyP (w.alloc (.cells cs T)) (some ⟨g,0,none⟩) T:=fun a e=>by
 subst h
 cases e
 exact⟨cs,(0,0),heap_alloc_new w _⟩
theorem Ai.take {w:World} {p:Option Addr} {l:List Af} (h:Ai w p l) (k:Nat):Ai w p (l.take k):=⟨fun i r hr=>h.at' i r (by
 rw[List.getElem?_take] at hr
 split at hr
 ·exact hr
 ·cases hr)⟩
theorem Au.take {w:World} {p:Option Addr} {l:List Int} (h:Au w p l) (k:Nat):Au w p (l.take k):=⟨fun i r hr=>h.at' i r (by
 rw[List.getElem?_take] at hr
 split at hr
 ·exact hr
 ·cases hr)⟩
structure Yz (w:World) (s:A4) (p q:Option Addr) (cap vc:Nat):Prop where
 runs:Ai w p s.runs
 raw:Au w q s.raw
 nilR:p=none->s.runs= []/\cap=0
 nilV:q=none->s.raw= []/\vc=0
 capR:s.runs.length<=cap
 capV:s.raw.length<=vc
 maxR:s.runs.length<=9223372036854775807
 maxV:s.raw.length<=9223372036854775807
def Xm (s:A4):A4:=⟨s.K,s.runs.take 300,s.A,s.R,s.n,s.d,s.raw.take 300,s.E⟩
def OwnOut (s:A4) (w:World) (e:Ending) (w':World):Prop:=∃p' cap' q' vc',e= .returned (.agg (C7 (Xm s) p' q' cap' vc'))/\Below w.heap.size w w'/\Cs w' (Xm s) p' q'/\(Xm s).raw.length<=vc'
def OwnOutT (s:A4) (w:World) (e:Ending) (w':World):Prop:=∃p' cap' q' vc',e= .returned (.agg (C7 (Xm s) p' q' cap' vc'))/\Below w.heap.size w w'/\Cs w' (Xm s) p' q'/\(Xm s).raw.length<=vc'/\TyP w' p' 144/\TyP w' q' 2
structure Na (w:World) (s:A4) (p q:Option Addr):Prop where
 seg:Cs w s p q
theorem Na.below {w w':World} {s:A4} {p q:Option Addr} (h:Na w s p q) (hb:Below w.heap.size w w'):Na w' s p q:=⟨h.seg.below hb⟩
theorem Na.alloc {w:World} {s:A4} {p q:Option Addr} (h:Na w s p q) (o:Obj):Na (w.alloc o) s p q:=h.below ((Below.refl _ _).alloc (Nat.le_refl _) o)
theorem Na.rex {L:List Nat} {w w':World} {s:A4} {p q:Option Addr} (h:Na w s p q) (hr:Rex L w w') (hL:L= []):Na w' s p q:=by subst hL;exact h.below hr.below
theorem Na.drew {w:World} {s:A4} {p q:Option Addr} (h:Na w s p q):Na w.drew s p q:=⟨⟨⟨h.seg.runs.at'⟩,⟨h.seg.raw.at'⟩,h.seg.fewR,h.seg.fewV⟩⟩
structure On (w:World) (b o:Nat) (l:List (Int×Int)):Prop where
 pts:A5 w (some ⟨b,o,none⟩) l
theorem On.below {w w':World} {b o:Nat} {l:List (Int×Int)} (h:On w b o l) (hb:Below w.heap.size w w'):On w' b o l:=⟨h.pts.below hb⟩
theorem On.rex {L:List Nat} {w w':World} {b o:Nat} {l:List (Int×Int)} (h:On w b o l) (hr:Rex L w w') (hL:L= []):On w' b o l:=by subst hL;exact h.below hr.below
theorem On.drew {w:World} {b o:Nat} {l:List (Int×Int)} (h:On w b o l):On w.drew b o l:=⟨⟨h.pts.at'⟩⟩
theorem On.cellAt {w:World} {b o:Nat} {l:List (Int×Int)} (h:On w b o l) {i:Nat} {x:Int×Int} (hx:l[i]? =some x):w.cell? ⟨b,o+i*2,none⟩=some (x.1)/\w.cell? ⟨b,o+i*2+1,none⟩=some (x.2):=by
 obtain⟨b',o',e,h1,h2⟩:=h.pts.at' i x hx
 cases e
 exact⟨h1,h2⟩
def spE (a b:Int):Int:=if a<=b then 0 else 140
def Nt (l:List (Int×Int)):Int:=if l.all (fun x=>decide (x.1<=x.2))=true then 0 else 140
theorem Ex (a b:Int) (w:World):Cb 96 #[.agg #[a,b]] w (.int .i64 (spE a b)):=by
 unfold spE
 by_cases h:a<=b
 ·rw[if_pos h]
  go_enter Tryz.func96,Tryz.ntmps96
  go_wp2
  go_ret
  exact⟨rfl,Aa⟩
 ·rw[if_neg h]
  have h':b<a:=by omega
  go_enter Tryz.func96,Tryz.ntmps96
  go_wp2
  go_ret
  exact⟨rfl,Aa⟩
def T0 (w:World) (p:Option Addr) (cap:Nat) (l:List (Int×Int)) (a':Act) (W:World):Prop:=
 Below w.heap.size w W/\∃i:Nat,(∃u:Nat->Value,a'= {tmps:= #[.slice p l.length cap,u 1,u 2,u 3,u 4,u 5,.slice p l.length cap,.int .i64 (l.length:Int),.int .i64 (i:Int),u 9,u 10,u 11,u 12,u 13,u 14,u 15,u 16,u 17],defers:= []})/\i<=l.length/\∀k x,k<i->l[k]? =some x->x.1<=x.2
theorem Jk (p:Option Addr) (cap:Nat) (l:List (Int×Int)) (w:World) (hlen:l.length<=1000000) (h:A5 w p l):
  Cb 92 #[.slice p l.length cap] w (.int .i64 (Nt l)):=by
 go_enter Tryz.func92,Tryz.ntmps92
 go_wp2
 refine wp_loop (T0 w p cap l) (fun a' _=>l.length-(Aq (a'.tmps.getD 8 undef)).toNat) ?_ ?_
 ·unfold T0
  exact⟨Below.refl _ _,0,Ag rfl,Nat.zero_le _,fun k x hk=>by omega⟩
 ·rintro a' W ⟨hW0,i,⟨u,rfl⟩,hi',hall⟩
  have hz:=hW0.size
  replace hall:=Hd hall
  rcases Nat.lt_or_ge i l.length with hlt|hge
  ·obtain⟨⟨x,y⟩,tr⟩:∃r,l[i]? =some r:=⟨l[i]'(by omega),List.getElem?_eq_getElem (by omega)⟩
   obtain⟨b,o,rfl,q0,q1⟩:=(h.below hW0).at' i _ tr
   replace tr:=Hd tr
   simp only at q0 q1
   have cb:=Ex x y
   unfold spE at cb
   by_cases hxy:x<=y
   ·rw[if_pos hxy] at cb
    replace cb:=Hd cb
    replace hxy:=Hd hxy
    go_wp2_with fail
    refine(cb.out _).mono ?_
    rintro e w21 ⟨rfl,hb21⟩
    have z22:=hb21.size
    try simp at z22
    refine Ad W w21 (Bc W.heap.size #[x,y] 33<|Bz) ?_
    rintro hW z23 ⟨⟨b1,yb1,k1,f1⟩,-⟩
    clear hb21
    go_wp2
    rw[show (i:Int)+1=((i+1:Nat):Int) by omega]
    refine⟨?_,by simp[Aq];omega⟩
    unfold T0
    exact⟨hW0.trans (hW.mono hz),i+1,Ag rfl,by omega,fun k z hk hz=>by
     rcases Nat.lt_or_ge k i with h|h
     ·exact hall.out k z h hz
     ·obtain rfl:k=i:=by omega
      rw[tr.out] at hz
      injection hz with hz
      rw[<-hz];exact hxy.out⟩
   ·rw[if_neg hxy] at cb
    replace cb:=Hd cb
    have hno:=Hd (show Nt l=140 by
     unfold Nt
     rw[if_neg]
     intro hh
     have:=List.all_eq_true.1 hh _ (List.mem_of_getElem? tr.out)
     simp at this
     exact hxy this)
    clear hxy
    go_wp2_with fail
    refine(cb.out _).mono ?_
    rintro e w21 ⟨rfl,hb21⟩
    have z22:=hb21.size
    try simp at z22
    refine Ad W w21 (Bc W.heap.size #[x,y] 33<|Bz) ?_
    rintro hW z23 ⟨⟨b1,yb1,k1,f1⟩,-⟩
    clear hb21
    go_wp2
    go_ret
    exact⟨by rw[hno.out];rfl,hW0.trans (hW.mono hz)⟩
  ·obtain rfl:i=l.length:=by omega
   have hyes:=Hd (show Nt l=0 by
    unfold Nt
    rw[if_pos]
    rw[List.all_eq_true]
    intro x hx
    obtain⟨k,hk⟩:=List.getElem?_of_mem hx
    simpa using hall.out k x (List.getElem?_eq_some_iff.1 hk).1 hk)
   go_wp2
   go_ret
   exact⟨by rw[hyes.out];rfl,hW0⟩
theorem c_spEnd1 (a b:Int) (w:World):Cb 148 #[.agg #[a,b]] w (a):=by
 go_enter Tryz.func148,Tryz.ntmps148
 go_wp2
 go_ret
 exact⟨rfl,Aa⟩
theorem c_spEnd2 (a b:Int) (w:World):Cb 149 #[.agg #[a,b]] w (b):=by
 go_enter Tryz.func149,Tryz.ntmps149
 go_wp2
 go_ret
 exact⟨rfl,Aa⟩
theorem Pj {α:Type} {l:List α} {i:Nat} {x:α} (g:α->Int) (h:l[i]? =some x):Ak ((l.take (i+1)).map g)=Ak ((l.take i).map g)+g x:=by
 rw[List.take_add_one,h,List.map_append,De]
 simp[Ak]
theorem Ni {α:Type} (g:α->Int) (l:List α) (h:∀x,x∈l->I64 (g x)): -(9223372036854775808*l.length)<=Ak (l.map g)/\Ak (l.map g)<=9223372036854775808*l.length:=by
 have:=F8 (l:=l.map g) (B:=9223372036854775808) (fun v hv=>by
  obtain⟨x,hx,rfl⟩:=List.mem_map.1 hv
  have:=h x hx
  unfold I64 at this
  omega)
 simpa using this
theorem Rs (S x:Int) (hS: -18446744073709551616000000<=S/\S<=18446744073709551616000000) (hx:I64 x):
  wrap64 (hiW S+wrap64 (x/9223372036854775808+wrap64 (Gi (loW S) (IntKind.u64.wrap x) 0)))=hiW (S+x)/\D8 (loW S) (IntKind.u64.wrap x) 0=loW (S+x):=by
 obtain⟨h1,h2⟩:=hx
 rw[Bu x,show x%18446744073709551616=loW x from rfl]
 have w1:∀z:Int,-1000000000000000000<=z->z<=1000000000000000000->wrap64 z=z:=fun z h1 h2=>by rw[Ah];omega
 have e1:x/9223372036854775808=hiW x:=by unfold hiW;omega
 have e2:Gi (loW S) (loW x) 0=hiW (S+x)-hiW S-hiW x:=by unfold Gi loW hiW;omega
 have b1:0<=Gi (loW S) (loW x) 0/\Gi (loW S) (loW x) 0<=1:=by unfold Gi loW;omega
 have b2: -1<=hiW x/\hiW x<=0:=by unfold hiW;omega
 have b3: -1000001<=hiW S/\hiW S<=1000001:=by unfold hiW;omega
 refine⟨?_,?_⟩
 ·rw[e1,w1 (Gi (loW S) (loW x) 0) (by omega) (by omega),w1 (hiW x+_) (by omega) (by omega),w1 (hiW S+_) (by omega) (by omega),e2];omega
 ·unfold D8 loW;omega
theorem Vn (S:Int) (hS: -18446744073709551616000000<=S/\S<=18446744073709551616000000):wrap64 (loW S)=wrap64 S/\(hiW S==wrap64 (loW S)/9223372036854775808)=inI S:=by
 refine⟨by rw[Ah,Ah];unfold loW;omega,?_⟩
 rw[Bool.eq_iff_iff,Ah]
 unfold inI
 simp only[beq_iff_eq,decide_eq_true_eq]
 unfold I64 hiW loW
 omega
def P5 (w:World) (p:Option Addr) (cap:Nat) (l:List (Int×Int)) (a':Act) (W:World):Prop:=
 Below w.heap.size w W/\∃i:Nat,(∃u:Nat->Value,a'= {tmps:= #[.slice p l.length cap,.func (.func 148) #[] #[],u 2,u 3,u 4,u 5,.int .u64 (loW (Ak ((l.take i).map (·.1)))),.int .i64 (hiW (Ak ((l.take i).map (·.1)))),u 8,u 9,u 10,u 11,.slice p l.length cap,.int .i64 (l.length:Int),.int .i64 (i:Int),u 15,u 16,u 17,u 18,u 19,u 20,u 21,u 22,u 23,u 24,u 25,u 26,u 27,u 28,u 29,u 30,u 31,u 32,u 33,u 34,u 35,u 36,u 37,u 38,u 39,u 40,u 41,u 42],defers:= []})/\i<=l.length
theorem c_spTot1 (p:Option Addr) (cap:Nat) (l:List (Int×Int)) (w:World) (hlen:l.length<=1000000) (h:A5 w p l) (hv:∀x,x∈l->I64 x.1/\I64 x.2):
  Cb 94 #[.slice p l.length cap,.func (.func 148) #[] #[]] w (.tuple #[.int .i64 (wrap64 (Ak (l.map (·.1)))),.bool (inI (Ak (l.map (·.1))))]):=by
 have hv0:=hv
 replace hv:=Hd hv
 go_enter Tryz.func94,Tryz.ntmps94
 go_wp2
 refine wp_loop (P5 w p cap l) (fun a' _=>l.length-(Aq (a'.tmps.getD 14 undef)).toNat) ?_ ?_
 ·unfold P5
  exact⟨Below.refl _ _,0,Ag rfl,Nat.zero_le _⟩
 ·rintro a' W ⟨hW0,i,⟨u,rfl⟩,hi'⟩
  have hz:=hW0.size
  rcases Nat.lt_or_ge i l.length with hlt|hge
  ·obtain⟨⟨x,y⟩,tr⟩:∃r,l[i]? =some r:=⟨l[i]'(by omega),List.getElem?_eq_getElem (by omega)⟩
   obtain⟨b,o,rfl,q0,q1⟩:=(h.below hW0).at' i _ tr
   have hx:=hv.out _ (List.mem_of_getElem? tr)
   have hstep:=Hd (Pj (fun z:Int×Int=>z.1) tr)
   have hbd:=Ni (fun z:Int×Int=>z.1) (l.take i) (fun z hz=>(hv.out z (List.mem_of_mem_take hz)).1)
   have hbl:(l.take i).length<=1000000:=by rw[List.length_take];omega
   have hxv:I64 x:=hx.1
   clear hx tr
   simp only at q0 q1
   obtain⟨S,hS⟩:∃S,Ak ((l.take i).map (·.1))=S:=⟨_,rfl⟩
   rw[hS] at hstep hbd⊢
   clear hS
   obtain⟨e1,e2⟩:=Rs S x (by omega) hxv
   have hL:=Gj S
   have hL2:=Dn x
   obtain⟨e4,e5⟩:=hxv
   clear hbd hbl
   have a1:=Tl (loW S) (IntKind.u64.wrap x) 0 hL.1 hL2.1 (by decide) (by decide)
   obtain⟨HI,hHI⟩:∃z,hiW S=z:=⟨_,rfl⟩
   obtain⟨LO,hLO⟩:∃z,loW S=z:=⟨_,rfl⟩
   rw[hHI] at e1⊢
   rw[hLO] at e1 e2 a1⊢
   replace e1:=Hd e1
   replace e2:=Hd e2
   clear hHI hLO hL hL2
   go_wp2_with fail
   refine(c_spEnd1 _ _ _).mono ?_
   rintro e w21 ⟨rfl,hb21⟩
   have z22:=hb21.size
   try simp at z22
   refine Ad W w21 (Bc W.heap.size #[x,y] 33<|Bz) ?_
   rintro hW z23 ⟨⟨b1,yb1,k1,f1⟩,-⟩
   clear hb21
   go_wp2
   rw[show (i:Int)+1=((i+1:Nat):Int) by omega]
   refine⟨?_,by simp[Aq];omega⟩
   unfold P5
   exact⟨hW0.trans (hW.mono hz),i+1,by rw[hstep.out,<-e1.out,<-e2.out];exact Ag rfl,by omega⟩
  ·obtain rfl:i=l.length:=by omega
   rw[List.take_length]
   have hbd:=Ni (fun z:Int×Int=>z.1) l (fun z hz=>(hv.out z hz).1)
   obtain⟨S,hS⟩:∃S,Ak (l.map (·.1))=S:=⟨_,rfl⟩
   rw[hS] at hbd⊢
   have e1:=Hd (Vn S (by omega))
   replace hS:=Hd hS
   clear hbd
   go_wp2
   go_ret2
   refine⟨?_,hW0⟩
   rw[hS.out,<-e1.out.1,<-e1.out.2]
   rfl
def P4 (w:World) (p:Option Addr) (cap:Nat) (l:List (Int×Int)) (a':Act) (W:World):Prop:=
 Below w.heap.size w W/\∃i:Nat,(∃u:Nat->Value,a'= {tmps:= #[.slice p l.length cap,.func (.func 149) #[] #[],u 2,u 3,u 4,u 5,.int .u64 (loW (Ak ((l.take i).map (·.2)))),.int .i64 (hiW (Ak ((l.take i).map (·.2)))),u 8,u 9,u 10,u 11,.slice p l.length cap,.int .i64 (l.length:Int),.int .i64 (i:Int),u 15,u 16,u 17,u 18,u 19,u 20,u 21,u 22,u 23,u 24,u 25,u 26,u 27,u 28,u 29,u 30,u 31,u 32,u 33,u 34,u 35,u 36,u 37,u 38,u 39,u 40,u 41,u 42],defers:= []})/\i<=l.length
theorem c_spTot2 (p:Option Addr) (cap:Nat) (l:List (Int×Int)) (w:World) (hlen:l.length<=1000000) (h:A5 w p l) (hv:∀x,x∈l->I64 x.1/\I64 x.2):
  Cb 94 #[.slice p l.length cap,.func (.func 149) #[] #[]] w (.tuple #[.int .i64 (wrap64 (Ak (l.map (·.2)))),.bool (inI (Ak (l.map (·.2))))]):=by
 have hv0:=hv
 replace hv:=Hd hv
 go_enter Tryz.func94,Tryz.ntmps94
 go_wp2
 refine wp_loop (P4 w p cap l) (fun a' _=>l.length-(Aq (a'.tmps.getD 14 undef)).toNat) ?_ ?_
 ·unfold P4
  exact⟨Below.refl _ _,0,Ag rfl,Nat.zero_le _⟩
 ·rintro a' W ⟨hW0,i,⟨u,rfl⟩,hi'⟩
  have hz:=hW0.size
  rcases Nat.lt_or_ge i l.length with hlt|hge
  ·obtain⟨⟨x,y⟩,tr⟩:∃r,l[i]? =some r:=⟨l[i]'(by omega),List.getElem?_eq_getElem (by omega)⟩
   obtain⟨b,o,rfl,q0,q1⟩:=(h.below hW0).at' i _ tr
   have hx:=hv.out _ (List.mem_of_getElem? tr)
   have hstep:=Hd (Pj (fun z:Int×Int=>z.2) tr)
   have hbd:=Ni (fun z:Int×Int=>z.2) (l.take i) (fun z hz=>(hv.out z (List.mem_of_mem_take hz)).2)
   have hbl:(l.take i).length<=1000000:=by rw[List.length_take];omega
   have hxv:I64 y:=hx.2
   clear hx tr
   simp only at q0 q1
   obtain⟨S,hS⟩:∃S,Ak ((l.take i).map (·.2))=S:=⟨_,rfl⟩
   rw[hS] at hstep hbd⊢
   clear hS
   obtain⟨e1,e2⟩:=Rs S y (by omega) hxv
   have hL:=Gj S
   have hL2:=Dn y
   obtain⟨e4,e5⟩:=hxv
   clear hbd hbl
   have a1:=Tl (loW S) (IntKind.u64.wrap y) 0 hL.1 hL2.1 (by decide) (by decide)
   obtain⟨HI,hHI⟩:∃z,hiW S=z:=⟨_,rfl⟩
   obtain⟨LO,hLO⟩:∃z,loW S=z:=⟨_,rfl⟩
   rw[hHI] at e1⊢
   rw[hLO] at e1 e2 a1⊢
   replace e1:=Hd e1
   replace e2:=Hd e2
   clear hHI hLO hL hL2
   go_wp2_with fail
   refine(c_spEnd2 _ _ _).mono ?_
   rintro e w21 ⟨rfl,hb21⟩
   have z22:=hb21.size
   try simp at z22
   refine Ad W w21 (Bc W.heap.size #[x,y] 33<|Bz) ?_
   rintro hW z23 ⟨⟨b1,yb1,k1,f1⟩,-⟩
   clear hb21
   go_wp2
   rw[show (i:Int)+1=((i+1:Nat):Int) by omega]
   refine⟨?_,by simp[Aq];omega⟩
   unfold P4
   exact⟨hW0.trans (hW.mono hz),i+1,by rw[hstep.out,<-e1.out,<-e2.out];exact Ag rfl,by omega⟩
  ·obtain rfl:i=l.length:=by omega
   rw[List.take_length]
   have hbd:=Ni (fun z:Int×Int=>z.2) l (fun z hz=>(hv.out z hz).2)
   obtain⟨S,hS⟩:∃S,Ak (l.map (·.2))=S:=⟨_,rfl⟩
   rw[hS] at hbd⊢
   have e1:=Hd (Vn S (by omega))
   replace hS:=Hd hS
   clear hbd
   go_wp2
   go_ret2
   refine⟨?_,hW0⟩
   rw[hS.out,<-e1.out.1,<-e1.out.2]
   rfl
def Ht:List Int->Nat
 | []=>0
 |d::l=>d.toNat+2*Ht l
def Dig (l:List Int):Prop:=∀d,d∈l->d=0∨d=1
def Tq (l:List Int):Prop:=l= []∨2^(l.length-1)<=Ht l
theorem Dig.nil :Dig []:=fun d h=>by simp at h
theorem Dig.cons {l:List Int} {d:Int} (h:Dig l) (hd:d=0∨d=1):Dig (d::l):=fun x hx=>by
 rcases List.mem_cons.1 hx with h1|h1
 ·subst h1;exact hd
 ·exact h x h1
theorem Dig.take {l:List Int} (h:Dig l) (k:Nat):Dig (l.take k):=fun x hx=>h x (List.mem_of_mem_take hx)
theorem Dig.drop {l:List Int} (h:Dig l) (k:Nat):Dig (l.drop k):=fun x hx=>h x (List.mem_of_mem_drop hx)
theorem Dig.at {l:List Int} (h:Dig l) {k:Nat} {d:Int} (hk:l[k]? =some d):d=0∨d=1:=h d (List.mem_of_getElem? hk)
theorem Tq.nil :Tq []:= .inl rfl
structure Er (w:World) (p:Option Addr) (l:List Int):Prop where
 at':∀(i:Nat) (x:Int),l[i]? =some x->∃b o,p=some ⟨b,o,none⟩/\w.cell? ⟨b,o+i,none⟩=some (x)
 typ:∀a,p=some a->∃cur fz,w.heap[a.block]? =some (.cells cur 3 fz)
theorem Er.below {w w':World} {p:Option Addr} {l:List Int} (h:Er w p l) (hb:Below w.heap.size w w'):Er w' p l:=
 ⟨((⟨h.at'⟩:Au w p l).below hb).at',fun a e=>by
  obtain⟨cur,fz,hh⟩:=h.typ a e
  exact⟨cur,fz,(hb.block a.block (Array.getElem?_eq_some_iff.1 hh).1).trans hh⟩⟩
theorem Er.take {w:World} {p:Option Addr} {l:List Int} (h:Er w p l) (k:Nat):Er w p (l.take k):=⟨fun i r hr=>h.at' i r (by
 rw[List.getElem?_take] at hr
 split at hr
 ·exact hr
 ·cases hr),h.typ⟩
def Fh (w:World) (v:Value) (n:Nat):Prop:=∃p l cap,v= .slice p l.length cap/\l.length<=cap/\l.length<=1000/\(p=none->l= []/\cap=0)/\Er w p l/\Dig l/\Tq l/\Ht l=n
theorem Fh.below {w w':World} {v:Value} {n:Nat} (h:Fh w v n) (hb:Below w.heap.size w w'):Fh w' v n:=by
 obtain⟨p,l,cap,h1,h2,h3,h4,h5,h6⟩:=h
 exact⟨p,l,cap,h1,h2,h3,h4,h5.below hb,h6⟩
theorem Fh.rex {L:List Nat} {w w':World} {v:Value} {n:Nat} (h:Fh w v n) (hr:Rex L w w') (hL:L= []):Fh w' v n:=by subst hL;exact h.below hr.below
theorem Fh.drew {w:World} {v:Value} {n:Nat} (h:Fh w v n):Fh w.drew v n:=by
 obtain⟨p,l,cap,h1,h2,h3,h4,h5,h6⟩:=h
 exact⟨p,l,cap,h1,h2,h3,h4,⟨h5.at',h5.typ⟩,h6⟩
theorem Fh.zero (w:World):Fh w (.slice none 0 0) 0:=⟨none,[],0,rfl,by simp,by simp,fun _=>⟨rfl,rfl⟩,⟨fun i x h=>by simp at h,fun a e=>by cases e⟩,Dig.nil,Tq.nil,rfl⟩
theorem Fp {w0 W w1:World} {B:Nat} {e:TypeId} {s k:Nat} {v:Value} {xs:List Value} {tmp:Obj} (hW:Below B w0 W) (hB:B<=W.heap.size) (hrow:W.ownsRow B e s v k xs) (hgr:(W.alloc tmp).grownBy w1 v.ownBlock):Below B w0 w1:=by
 refine(hW.alloc hB tmp).grown hgr (by simp;omega) fun j ej=> ?_
 rcases hrow.2 with⟨rfl,_⟩|⟨g,cap,cur,rfl,hb,_,_⟩
 ·simp[Value.ownBlock] at ej
 ·obtain rfl:g=j:=by simpa [Value.ownBlock] using ej
  exact hb
def sizeRel (u0:Nat) (w:World) (a':Act) (W:World):Prop:=
 Below w.heap.size w W/\∃(l:List Int) (u:Nat) (v:Value),(∃x:Nat->Value,a'= {tmps:= #[.int .u64 (u:Int),x 1,x 2,v,x 4,x 5,x 6,x 7,x 8,x 9,x 10,x 11,x 12,x 13,x 14],defers:= []})/\
  W.ownsRow w.heap.size 3 1 v l.length (l.map (Value.int .i64))/\Dig l/\Ht l+2^l.length*u=u0/\l.length<=64/\u<2^(64-l.length)/\(u=0->Tq l)
def powRel (n:Nat) (w:World) (a':Act) (W:World):Prop:=
 Below w.heap.size w W/\∃(k:Nat) (v:Value),(∃x:Nat->Value,a'= {tmps:= #[.int .i64 (n:Int),x 1,x 2,v,.int .i64 (k:Int),x 5,x 6,x 7,x 8,x 9,x 10,x 11,x 12,x 13,x 14,x 15],defers:= []})/\
  W.ownsRow w.heap.size 3 1 v k ((List.replicate k (0:Int)).map (Value.int .i64))/\k<=n
theorem Er.taken {w:World} {p:Option Addr} {l:List Int} (h:Er w p l) (k:Nat):Er w p (l.take k):=h.take k
def trimRel (w:World) (b o cap:Nat) (l:List Int) (a':Act) (W:World):Prop:=
 Below w.heap.size w W/\∃k:Nat,(∃u:Nat->Value,a'= {tmps:= #[.slice (some ⟨b,o,none⟩) l.length cap,u 1,u 2,.int .i64 (k:Int),u 4,u 5,u 6,u 7,u 8,u 9,u 10,u 11,u 12,u 13,u 14,u 15,u 16,u 17,u 18,u 19,u 20],defers:= []})/\k<=l.length/\Ht (l.take k)=Ht l
def plusRel (w:World) (p q:Option Addr) (a b:List Int) (ca cb:Nat) (a':Act) (W:World):Prop:=
 Below w.heap.size w W/\∃(l:List Int) (c:Int) (v:Value),(∃u:Nat->Value,a'= {tmps:= #[.slice p a.length ca,.slice q b.length cb,u 2,u 3,u 4,v,.int .i64 c,.int .i64 (l.length:Int),u 8,u 9,u 10,u 11,u 12,u 13,u 14,u 15,u 16,u 17,u 18,u 19,u 20,u 21,u 22,u 23,u 24,u 25,u 26,u 27,u 28,u 29,u 30,u 31,u 32,u 33,u 34,u 35,u 36,u 37,u 38,u 39,u 40,u 41,u 42,u 43,u 44,u 45,u 46,u 47,u 48,u 49,u 50,u 51,u 52,u 53],defers:= []})/\
  W.ownsRow w.heap.size 3 1 v l.length (l.map (Value.int .i64))/\Dig l/\(0<=c/\c<=1)/\Ht l+2^l.length*c.toNat=Ht (a.take l.length)+Ht (b.take l.length)/\
  ((l.length:Int)+c<=a.length+1∨(l.length:Int)+c<=b.length+1)/\(l.length=0∨l.length<=a.length∨l.length<=b.length∨2^(l.length-1)<=Ht l)
end Go.Proofs.YtidfcoooccblaaaGreat
