/- Parts of the proof that follows. No condition. -/
import Derived.Test.YtidfcoooccblaaaGreatBon13
set_option maxRecDepth 100000
set_option maxHeartbeats 8000000
set_option linter.unusedSimpArgs false
set_option linter.unusedVariables false
namespace Go.Proofs.YtidfcoooccblaaaGreat
open Go.RowKit Go.Shelf
attribute [local go_sem] Oper.semAt_some
theorem KeepsOthers.of_rex {A C:World} {g:Nat} {cs:Array Value} {t:TypeId} (h:Rex [g] A C) (hg:Blk A g cs t):KeepsOthers A C:=⟨h.size,fun k o hk ho=>(h.block k (Cv hk) (fun e=>by
 simp at e
 subst e
 unfold Blk at hg
 rw[hg] at hk
 injection hk with hk
 subst hk
 cases ho)).trans hk⟩
theorem Zm (nm:ByteArray) (ep fl la sc:Int) (ps po:Option Addr) (ns cs no co:Nat) (a b:Int) (w:World):
  Calls Tryz.prog 107 #[.agg #[.string nm,ep,fl,la,sc,.slice ps ns cs,.slice po no co],a,b] w fun e w'=>
   e= .returned (.func (.func 159) #[] #[.pointer (some ⟨w.heap.size+1,0,none⟩),.pointer (some ⟨w.heap.size,0,none⟩),.pointer (some ⟨w.heap.size+1+1,0,none⟩)])/\w'=((w.alloc (.cells #[.string nm,ep,fl,la,sc,.slice ps ns cs,.slice po no co] 25)).alloc (.cells #[a] 2)).alloc (.cells #[b] 2):=by
 have hmf:∀(fn:Fn) (first cap:Array Value) (w:World),(Instr.makeFunc fn first cap).run Tryz.prog w= .ok (.func fn first cap) w:=fun _ _ _ _=>rfl
 go_enter Tryz.func107,Tryz.ntmps107
 go_wp2
 go_ret
 exact⟨by simp,rfl⟩
def PcOk (x:List Int×Int):Prop:=x.1≠ []/\x.1.length<=256/\0<=x.2/\x.2<=1099511627776/\∀v,v∈x.1-> -2305844108725321728<=v/\v<=2305844108725321728
theorem segB_err {s:A4} (h:C1 s=true):0<=s.E/\s.E<=1099511627776:=by
 unfold C1 at h
 simp only[Bool.and_eq_true,decide_eq_true_eq,<-and_assoc] at h
 exact⟨h.1.1.2,h.1.2⟩
 --,h.2.1.2⟩
theorem pcs_ok {s:Be} (hv:∀x,x∈s.segs->C1 x=true) (ho:∀x,x∈s.opn-> -2305844108725321728<=x.2/\x.2<=2305844108725321728) (a b:Int):∀x,x∈Mf s a b->PcOk x:=by
 intro x hx
 unfold Mf at hx
 rcases List.mem_append.1 hx with hx|hx
 ·obtain⟨y,hy,hxy⟩:=List.mem_flatMap.1 hx
  have hs:=hv y hy
  have he:=segB_err hs
  unfold Fa at hxy
  split at hxy
  ·cases hxy
  ·rename_i hne
   rw[List.mem_singleton.1 hxy]
   refine⟨hne,?_,he.1,he.2,?_⟩
   ·have h1:(Nh (mx a s.floor) b (Dr y)).length<=(Dr y).length:=by unfold Nh;rw[List.length_map];exact List.length_filter_le _ _
    have h2:=Mw hs
    have h3:=(D6 (By hs)).2
    simp only
    omega
   ·intro v hv'
    unfold Nh at hv'
    obtain⟨p,hp,rfl⟩:=List.mem_map.1 hv'
    exact vals_back hs (by rw[<-map_pts hs];exact List.mem_map_of_mem ((List.mem_filter.1 hp).1))
 ·unfold D3 at hx
  obtain⟨p,hp,rfl⟩:=List.mem_map.1 hx
  have:=ho p ((List.mem_filter.1 hp).1)
  refine⟨by simp,by simp,by omega,by omega,fun v hv'=> ?_⟩
  obtain rfl:v=p.2:=by simpa using hv'
  exact this
theorem Sb {x:List Int×Int} (h:PcOk x):∀y,y∈pairs x-> -2305844108725321728<=y.1/\y.1<=2305844108725321728/\0<=y.2/\y.2<=1099511627776:=by
 intro y hy
 unfold pairs at hy
 obtain⟨v,hv,rfl⟩:=List.mem_map.1 hy
 have:=h.2.2.2.2 v hv
 exact⟨this.1,this.2,h.2.2.1,h.2.2.2.1⟩
theorem Z8 {s:Be} (h1:s.segs.length<=100) (h2:s.opn.length<=100) (a b:Int):(Mf s a b).length<=200:=by
 have:=Js (Fa (mx a s.floor) b) 1 s.segs fun x _=>by unfold Fa;split<;>simp
 have h3:(D3 (mx a s.floor) b s.opn).length<=s.opn.length:=by unfold D3;rw[List.length_map];exact List.length_filter_le _ _
 unfold Mf
 rw[List.length_append]
 omega
theorem Td :shA []= #[.int .i64 0,.int .i64 0,.int .i64 0,.int .i64 0,.int .i64 0,.int .i64 0,.int .u64 0,.int .i64 0,.int .u64 0]:=by unfold shA loL hiL;simp[Bh,Bi,Ap,hiW,loW]
def Lm (s:Be) (a b:Int) (e:Ending):Prop:=e= .returned (.tuple #[.agg (shA ((Mf s a b).flatMap pairs)),.int .i64 (if (Mf s a b).flatMap pairs= [] then 9 else 0)])
theorem whole1_in (s:Be) (ps po:Option Addr) (cs co:Nat) (a b:Int) (gs ga gb:Nat) (w:World) (hin:Av w s ps po) (hv:∀x,x∈s.segs->C1 x=true) (ho:∀x,x∈s.opn-> -2305844108725321728<=x.2/\x.2<=2305844108725321728) (hb: -9223372036854775808<=b)
  (kS:Blk w gs (Cg s ps cs po co) 25) (kA:Blk w ga #[a] 2) (kB:Blk w gb #[b] 2):
  CallsIn Fence.wide 4 Tryz.prog 105 #[.pointer (some ⟨gs,0,none⟩),.pointer (some ⟨ga,0,none⟩),.pointer (some ⟨gb,0,none⟩)] w fun e w'=>Lm s a b e/\Below w.heap.size w w':=by
 have hok:=pcs_ok hv ho a b
 have hfew:=Z8 hin.fewS hin.fewO a b
 have hmf:∀(fn:Fn) (first cap:Array Value) (w:World),(Instr.makeFunc fn first cap).run Tryz.prog w= .ok (.func fn first cap) w:=fun _ _ _ _=>rfl
 replace hok:=Hd hok
 replace hfew:=Hd hfew
 unfold Cg at kS
 refine callsIn_of_wp_marks Tryz.func105 rfl trivial ?_ rfl
 simp only[Tryz.ntmps105,List.size_toArray,List.length_cons,List.length_nil,Nat.reduceAdd,Nat.reduceSub,Array.replicate_succ,Array.replicate_zero,List.push_toArray,List.append_toArray,List.nil_append,List.cons_append]
 refine wpIn_wide.2 ?_
 go_upto_region 3 with(fail)
 refine Ad w (Bc gs #[.string s.name,s.eps,s.floor,s.last,s.scale,.slice ps s.segs.length cs,.slice po s.opn.length co] 25<|Bc ga #[a] 2<|Bc gb #[b] 2<|Bc w.heap.size #[.int .i64 0,.int .i64 0,.int .i64 0,.int .i64 0,.int .i64 0,.int .i64 0,.int .u64 0,.int .i64 0,.int .u64 0] 38<|Bc (w.heap.size+1) #[.int .i64 0,.int .i64 0,.int .i64 0,.int .i64 0,.int .i64 0,.int .i64 0,.int .u64 0,.int .i64 0,.int .u64 0] 190<|Bc (w.heap.size+1+1) #[.func (.func 106) #[.pointer (some ⟨w.heap.size+1,0,none⟩)] #[]] 191<|Bz) ?_
 rintro W1 hW z2 ⟨⟨b1,yb1,k1,f1⟩,⟨b2,yb2,k2,f2⟩,⟨b3,yb3,k3,f3⟩,⟨b4,yb4,k4,f4⟩,⟨b5,yb5,k5,f5⟩,⟨b6,yb6,k6,f6⟩,-⟩
 go_wp2_with fail
 refine(Zm _ _ _ _ _ _ _ _ _ _ _ _ _ _).mono ?_
 rintro e w' ⟨rfl,rfl⟩
 have c1:Below w.heap.size w (((W1.alloc (.cells #[.string s.name,s.eps,s.floor,s.last,s.scale,.slice ps s.segs.length cs,.slice po s.opn.length co] 25)).alloc (.cells #[a] 2)).alloc (.cells #[b] 2)):=Aa
 have d1:Blk (((W1.alloc (.cells #[.string s.name,s.eps,s.floor,s.last,s.scale,.slice ps s.segs.length cs,.slice po s.opn.length co] 25)).alloc (.cells #[a] 2)).alloc (.cells #[b] 2)) w.heap.size #[.int .i64 0,.int .i64 0,.int .i64 0,.int .i64 0,.int .i64 0,.int .i64 0,.int .u64 0,.int .i64 0,.int .u64 0] 38:=Ab
 have d2:Blk (((W1.alloc (.cells #[.string s.name,s.eps,s.floor,s.last,s.scale,.slice ps s.segs.length cs,.slice po s.opn.length co] 25)).alloc (.cells #[a] 2)).alloc (.cells #[b] 2)) (w.heap.size+1) #[.int .i64 0,.int .i64 0,.int .i64 0,.int .i64 0,.int .i64 0,.int .i64 0,.int .u64 0,.int .i64 0,.int .u64 0] 190:=Ab
 have d3:Blk (((W1.alloc (.cells #[.string s.name,s.eps,s.floor,s.last,s.scale,.slice ps s.segs.length cs,.slice po s.opn.length co] 25)).alloc (.cells #[a] 2)).alloc (.cells #[b] 2)) (w.heap.size+1+1) #[.func (.func 106) #[.pointer (some ⟨w.heap.size+1,0,none⟩)] #[]] 191:=Ab
 have d4:Blk (((W1.alloc (.cells #[.string s.name,s.eps,s.floor,s.last,s.scale,.slice ps s.segs.length cs,.slice po s.opn.length co] 25)).alloc (.cells #[a] 2)).alloc (.cells #[b] 2)) W1.heap.size #[.string s.name,s.eps,s.floor,s.last,s.scale,.slice ps s.segs.length cs,.slice po s.opn.length co] 25:=Ab
 have d5:Blk (((W1.alloc (.cells #[.string s.name,s.eps,s.floor,s.last,s.scale,.slice ps s.segs.length cs,.slice po s.opn.length co] 25)).alloc (.cells #[a] 2)).alloc (.cells #[b] 2)) (W1.heap.size+1) #[a] 2:=Ab
 have d6:Blk (((W1.alloc (.cells #[.string s.name,s.eps,s.floor,s.last,s.scale,.slice ps s.segs.length cs,.slice po s.opn.length co] 25)).alloc (.cells #[a] 2)).alloc (.cells #[b] 2)) (W1.heap.size+1+1) #[b] 2:=Ab
 have hsz:(((W1.alloc (.cells #[.string s.name,s.eps,s.floor,s.last,s.scale,.slice ps s.segs.length cs,.slice po s.opn.length co] 25)).alloc (.cells #[a] 2)).alloc (.cells #[b] 2)).heap.size=W1.heap.size+1+1+1:=by simp
 obtain⟨W0,hWe⟩:∃W0,W0=(((W1.alloc (.cells #[.string s.name,s.eps,s.floor,s.last,s.scale,.slice ps s.segs.length cs,.slice po s.opn.length co] 25)).alloc (.cells #[a] 2)).alloc (.cells #[b] 2)):=⟨_,rfl⟩
 rw[<-hWe] at c1 d1 d2 d3 d4 d5 d6 hsz⊢
 have zB:=b6.lt
 have zV:=hW.size
 clear hWe b1 b2 b3 b4 b5 b6 k1 k2 k3 k4 k5 k6 f1 f2 f3 f4 f5 f6
 go_wp2
 refine(wpIn_wide (n:=4)).1 ?_
 refine Ti rfl (by omega) (gf:=159) (lb:= #[.pointer (some ⟨W1.heap.size+1,0,none⟩),.pointer (some ⟨W1.heap.size,0,none⟩),.pointer (some ⟨W1.heap.size+1+1,0,none⟩)]) rfl trivial (enters_of Tryz.func159 (by kernel_rfl) rfl)
  (encs:=fun x:List Int×Int=> #[Value.agg (pcA x.1 x.2)]) (Kp:=KF w.heap.size W1.heap.size) (xs:=Mf s a b) (Ba:=W1.heap.size+1) (by omega)
  (fun lr J W hWW hJ hJw hY h0=>Us 3 (by omega) lr (W1.heap.size+1) W1.heap.size (W1.heap.size+1+1) W1.heap.size s ps po cs co a b w hin hv (fun x hx=>by have:=ho x hx;unfold I64;omega) hb zV (by omega) (by omega) (by omega) (by omega) (by omega) J _ hJ hJw hY W (c1.trans (hWW.mono c1.size)) (d4.below hWW) (d5.below hWW) (d6.below hWW) h0)
  (fun h k=>h.trans k) (KF.putObj (by omega)) (fun _=>rfl)
  (fun pre W=>((Blk W w.heap.size #[.int .i64 0,.int .i64 0,.int .i64 0,.int .i64 0,.int .i64 0,.int .i64 0,.int .u64 0,.int .i64 0,.int .u64 0] 38/\Blk W (w.heap.size+1+1) #[.func (.func 106) #[.pointer (some ⟨w.heap.size+1,0,none⟩)] #[]] 191)/\Blk W (w.heap.size+1) (shA (pre.flatMap pairs)) 190)/\Below w.heap.size w W)
  (OwnFrom.and (OwnFrom.and (OwnFrom.and (Own.from (F7 _ _ _) _) (Own.from (F7 _ _ _) _)) (Own.from (F7 _ _ (fun pre=>shA (List.flatMap pairs pre))) _)) (ownFrom_below (Nat.le_refl _) (by omega)))
  (fun pre W v ⟨⟨⟨i1,i2⟩,i3⟩,i4⟩=>⟨⟨⟨i1.setO (by omega) 0 v,i2.setO (by omega) 0 v⟩,i3.setO (by omega) 0 v⟩,i4.setCell (p:=⟨W1.heap.size+1,0,none⟩) (by simp;omega) v⟩)
  ⟨⟨⟨d1,d3⟩,by rw[show List.flatMap pairs ([]:List (List Int×Int))= [] from rfl,Td];exact d2⟩,c1⟩
  (fun x a' W=>∃Bx,w.heap.size+1+1<Bx/\Blk W Bx #[.int .i64 (x.1.length:Int),.int .i64 (Bh x.1),.int .i64 (Bi x.1),.int .i64 (hiW (Ap x.1)),.int .u64 (loW (Ap x.1)),x.2] 198/\a'= {tmps:= #[.pointer (some ⟨gs,0,none⟩),.pointer (some ⟨ga,0,none⟩),.pointer (some ⟨gb,0,none⟩),.pointer (some ⟨w.heap.size,0,none⟩),.int .i64 0,.pointer (some ⟨w.heap.size+1,0,none⟩),.pointer (some ⟨w.heap.size+1+1,0,none⟩),.pointer (some ⟨Bx,0,none⟩),.func (.func 106) #[.pointer (some ⟨w.heap.size+1,0,none⟩)] #[],.agg #[.string s.name,s.eps,s.floor,s.last,s.scale,.slice ps s.segs.length cs,.slice po s.opn.length co],a,b,.func (.func 159) #[] #[.pointer (some ⟨W1.heap.size+1,0,none⟩),.pointer (some ⟨W1.heap.size,0,none⟩),.pointer (some ⟨W1.heap.size+1+1,0,none⟩)],.agg #[.int .i64 (x.1.length:Int),.int .i64 (Bh x.1),.int .i64 (Bi x.1),.int .i64 (hiW (Ap x.1)),.int .u64 (loW (Ap x.1)),x.2],undef,undef,undef,undef,undef,undef,undef,undef,undef,undef],defers:= []})
  (fun x a' _ X Y row hs hg hr=>by obtain⟨Bx,h1,h2,h3⟩:=hs;exact⟨Bx,h1,F7 Bx 198 (fun(_:Unit)=> #[.int .i64 (x.1.length:Int),.int .i64 (Bh x.1),.int .i64 (Bi x.1),.int .i64 (hiW (Ap x.1)),.int .u64 (loW (Ap x.1)),x.2]) () X Y row h2 hg (fun r e=>(hr r e).2),h3⟩) ?assign ?body ?done
 case assign=>
  rintro l pre x W K ⟨⟨⟨i1,i2⟩,i3⟩,i4⟩ hK
  have hlt:=i2.lt
  have hz:=i4.size
  unfold pcA
  gi_wp2
  exact hK _ _ ((KeepsOthers.alloc _ _).from _) ((KF.refl _ _ _).alloc hz _) ⟨⟨⟨i1.alloc _,i2.alloc _⟩,i3.alloc _⟩,i4.alloc hz _⟩ ⟨W.heap.size,hlt,Blk.new' rfl,rfl⟩
 case body=>
  rintro l pre x a' W ⟨⟨⟨i1,i2⟩,i3⟩,i4⟩ ⟨Bx,hBx,bX,rfl⟩ hp
  have hlt:=i2.lt
  have hlt3:=i3.lt
  have hltX:=bX.lt
  have hz:=i4.size
  have hx:=hok.out x (hp.subset (by simp))
  have hpl:pre.length<=200:=by have h1:=hp.length_le;have h2:=hfew.out;rw[List.length_append] at h1;omega
  have hpm:∀y,y∈pre->PcOk y:=fun y hy=>hok.out y (hp.subset (by simp[hy]))
  have hfl:(pre.flatMap pairs).length<=100000:=by
   have:=Js pairs 256 pre fun y hy=>by unfold pairs;rw[List.length_map];exact(hpm y hy).2.1
   omega
  have ct:=c_take (w.heap.size+1) (pre.flatMap pairs) x.1 x.2 W i3 hx.1 hx.2.2.1 hx.2.2.2.1 hx.2.2.2.2 (by have:=hx.2.1;omega) (fun y hy=>by obtain⟨g,hg,hyg⟩:=List.mem_flatMap.1 hy;exact Sb (hpm g hg) y hyg) hfl
  unfold pcA at ct
  replace ct:=Hd ct
  have hfm:(pre++ [x]).flatMap pairs=pre.flatMap pairs++pairs (x.1,x.2):=by simp
  replace hfm:=Hd hfm
  clear hx hpl hpm hfl hp
  have k2:=i2.cell
  have kx:=bX.cell
  gi_wp2_with (refine⟨trivial,?_⟩;gi_at_call 106;refine(CallsIn.inRound l (callsIn_wide.2 ct.out)).mono ?_;rintro e w2 ⟨rfl,hR,hb2⟩)
  refine⟨(KeepsOthers.of_rex hR i3).from _,⟨hR.of_priv hz (by simp),fun q cs t f hq hh=>(hR.block q (Cv hh) (fun e=>by simp at e;omega)).trans hh⟩,⟨⟨i1.rex hR (by simp),i2.rex hR (by simp)⟩,?_⟩,i4.trans (hR.of_priv hz (by simp))⟩
  rw[hfm.out]
  exact hb2
 case done=>
  rintro D W hD ⟨⟨⟨i1,i2⟩,i3⟩,i4⟩ hK
  have hz:=i4.size
  have y1:=i1.lt
  have y3:=i3.lt
  obtain⟨L,hL⟩:∃L,(Mf s a b).flatMap pairs=L:=⟨_,rfl⟩
  have i5:=i3
  rw[hL] at i3 i5
  unfold shA at i3
  have k3:=i3.cell
  have k1:=i1.cell
  have f1:=i1.frozen
  replace hL:=Hd hL
  simp only[Exit.inBlock,Exit.then]
  by_cases hne:L= []
  ·have hl0:((L.length:Int)==0)=true:=by rw[hne];rfl
   have hw:=Hd (show Lm s a b (.returned (.tuple #[.agg #[.int .i64 0,.int .i64 0,.int .i64 0,.int .i64 0,.int .i64 0,.int .i64 0,.int .u64 0,.int .i64 0,.int .u64 0],.int .i64 9])) by unfold Lm;rw[hL.out,hne,Td,if_pos rfl])
   clear hne
   go_wp2
   have b9:Blk (((((((((W.setCell ⟨w.heap.size,0,none⟩ (.int .i64 0)).setCell ⟨w.heap.size,1,none⟩ (.int .i64 0)).setCell ⟨w.heap.size,2,none⟩ (.int .i64 0)).setCell ⟨w.heap.size,3,none⟩ (.int .i64 0)).setCell ⟨w.heap.size,4,none⟩ (.int .i64 0)).setCell ⟨w.heap.size,5,none⟩ (.int .i64 0)).setCell ⟨w.heap.size,6,none⟩ (.int .u64 0)).setCell ⟨w.heap.size,7,none⟩ (.int .i64 0)).setCell ⟨w.heap.size,8,none⟩ (.int .u64 0)) w.heap.size #[.int .i64 0,.int .i64 0,.int .i64 0,.int .i64 0,.int .i64 0,.int .i64 0,.int .u64 0,.int .i64 0,.int .u64 0] 38:=Ab
   have hB9:Below w.heap.size w (((((((((W.setCell ⟨w.heap.size,0,none⟩ (.int .i64 0)).setCell ⟨w.heap.size,1,none⟩ (.int .i64 0)).setCell ⟨w.heap.size,2,none⟩ (.int .i64 0)).setCell ⟨w.heap.size,3,none⟩ (.int .i64 0)).setCell ⟨w.heap.size,4,none⟩ (.int .i64 0)).setCell ⟨w.heap.size,5,none⟩ (.int .i64 0)).setCell ⟨w.heap.size,6,none⟩ (.int .u64 0)).setCell ⟨w.heap.size,7,none⟩ (.int .i64 0)).setCell ⟨w.heap.size,8,none⟩ (.int .u64 0)):=Aa
   have hK9:(((((((((W.setCell ⟨w.heap.size,0,none⟩ (.int .i64 0)).setCell ⟨w.heap.size,1,none⟩ (.int .i64 0)).setCell ⟨w.heap.size,2,none⟩ (.int .i64 0)).setCell ⟨w.heap.size,3,none⟩ (.int .i64 0)).setCell ⟨w.heap.size,4,none⟩ (.int .i64 0)).setCell ⟨w.heap.size,5,none⟩ (.int .i64 0)).setCell ⟨w.heap.size,6,none⟩ (.int .u64 0)).setCell ⟨w.heap.size,7,none⟩ (.int .i64 0)).setCell ⟨w.heap.size,8,none⟩ (.int .u64 0)).heap[D]? =some (.deferred (some [])):=(Er:KeepsOthers _ (((((((((W.setCell ⟨w.heap.size,0,none⟩ (.int .i64 0)).setCell ⟨w.heap.size,1,none⟩ (.int .i64 0)).setCell ⟨w.heap.size,2,none⟩ (.int .i64 0)).setCell ⟨w.heap.size,3,none⟩ (.int .i64 0)).setCell ⟨w.heap.size,4,none⟩ (.int .i64 0)).setCell ⟨w.heap.size,5,none⟩ (.int .i64 0)).setCell ⟨w.heap.size,6,none⟩ (.int .u64 0)).setCell ⟨w.heap.size,7,none⟩ (.int .i64 0)).setCell ⟨w.heap.size,8,none⟩ (.int .u64 0))).same D _ hK rfl
   obtain⟨W9,hW9⟩:∃W9,W9=(((((((((W.setCell ⟨w.heap.size,0,none⟩ (.int .i64 0)).setCell ⟨w.heap.size,1,none⟩ (.int .i64 0)).setCell ⟨w.heap.size,2,none⟩ (.int .i64 0)).setCell ⟨w.heap.size,3,none⟩ (.int .i64 0)).setCell ⟨w.heap.size,4,none⟩ (.int .i64 0)).setCell ⟨w.heap.size,5,none⟩ (.int .i64 0)).setCell ⟨w.heap.size,6,none⟩ (.int .u64 0)).setCell ⟨w.heap.size,7,none⟩ (.int .i64 0)).setCell ⟨w.heap.size,8,none⟩ (.int .u64 0)):=⟨_,rfl⟩
   rw[<-hW9] at b9 hB9 hK9⊢
   clear hW9
   have b9':Blk (W9.putObj D (.deferred none)) w.heap.size #[.int .i64 0,.int .i64 0,.int .i64 0,.int .i64 0,.int .i64 0,.int .i64 0,.int .u64 0,.int .i64 0,.int .u64 0] 38:=(World.putObj_heap_other (by omega)).trans b9
   simp only[bodyPostM]
   refine⟨by simp,.inl ⟨_,_,rfl,run_takeDeferred hK9,?_⟩⟩
   have k9:=b9'.cell
   have y9:=b9'.lt
   refine⟨.tuple #[.agg #[.int .i64 0,.int .i64 0,.int .i64 0,.int .i64 0,.int .i64 0,.int .i64 0,.int .u64 0,.int .i64 0,.int .u64 0],.int .i64 9],by simp[results,Tryz.f105,go_sem,k9],hw.out,hB9.trans (belowK_b (w:=w) (Nat.le_refl _) W9 D _ _ (by omega) hK9 rfl rfl)⟩
  ·have hl0:((L.length:Int)==0)=false:=by simpa using hne
   have hw:=Hd (show Lm s a b (.returned (.tuple #[.agg (shA L),.int .i64 0])) by unfold Lm;rw[hL.out,if_neg hne])
   clear hne
   go_wp2
   have b9:Blk (((((((((W.setCell ⟨w.heap.size,0,none⟩ (.int .i64 (L.length:Int))).setCell ⟨w.heap.size,1,none⟩ (.int .i64 (Bh (loL L)))).setCell ⟨w.heap.size,2,none⟩ (.int .i64 (Bh (hiL L)))).setCell ⟨w.heap.size,3,none⟩ (.int .i64 (Bi (loL L)))).setCell ⟨w.heap.size,4,none⟩ (.int .i64 (Bi (hiL L)))).setCell ⟨w.heap.size,5,none⟩ (.int .i64 (hiW (Ap (loL L))))).setCell ⟨w.heap.size,6,none⟩ (.int .u64 (loW (Ap (loL L))))).setCell ⟨w.heap.size,7,none⟩ (.int .i64 (hiW (Ap (hiL L))))).setCell ⟨w.heap.size,8,none⟩ (.int .u64 (loW (Ap (hiL L))))) w.heap.size (shA L) 38:=by unfold shA;exact Ab
   have hB9:Below w.heap.size w (((((((((W.setCell ⟨w.heap.size,0,none⟩ (.int .i64 (L.length:Int))).setCell ⟨w.heap.size,1,none⟩ (.int .i64 (Bh (loL L)))).setCell ⟨w.heap.size,2,none⟩ (.int .i64 (Bh (hiL L)))).setCell ⟨w.heap.size,3,none⟩ (.int .i64 (Bi (loL L)))).setCell ⟨w.heap.size,4,none⟩ (.int .i64 (Bi (hiL L)))).setCell ⟨w.heap.size,5,none⟩ (.int .i64 (hiW (Ap (loL L))))).setCell ⟨w.heap.size,6,none⟩ (.int .u64 (loW (Ap (loL L))))).setCell ⟨w.heap.size,7,none⟩ (.int .i64 (hiW (Ap (hiL L))))).setCell ⟨w.heap.size,8,none⟩ (.int .u64 (loW (Ap (hiL L))))):=Aa
   have hK9:(((((((((W.setCell ⟨w.heap.size,0,none⟩ (.int .i64 (L.length:Int))).setCell ⟨w.heap.size,1,none⟩ (.int .i64 (Bh (loL L)))).setCell ⟨w.heap.size,2,none⟩ (.int .i64 (Bh (hiL L)))).setCell ⟨w.heap.size,3,none⟩ (.int .i64 (Bi (loL L)))).setCell ⟨w.heap.size,4,none⟩ (.int .i64 (Bi (hiL L)))).setCell ⟨w.heap.size,5,none⟩ (.int .i64 (hiW (Ap (loL L))))).setCell ⟨w.heap.size,6,none⟩ (.int .u64 (loW (Ap (loL L))))).setCell ⟨w.heap.size,7,none⟩ (.int .i64 (hiW (Ap (hiL L))))).setCell ⟨w.heap.size,8,none⟩ (.int .u64 (loW (Ap (hiL L))))).heap[D]? =some (.deferred (some [])):=(Er:KeepsOthers _ (((((((((W.setCell ⟨w.heap.size,0,none⟩ (.int .i64 (L.length:Int))).setCell ⟨w.heap.size,1,none⟩ (.int .i64 (Bh (loL L)))).setCell ⟨w.heap.size,2,none⟩ (.int .i64 (Bh (hiL L)))).setCell ⟨w.heap.size,3,none⟩ (.int .i64 (Bi (loL L)))).setCell ⟨w.heap.size,4,none⟩ (.int .i64 (Bi (hiL L)))).setCell ⟨w.heap.size,5,none⟩ (.int .i64 (hiW (Ap (loL L))))).setCell ⟨w.heap.size,6,none⟩ (.int .u64 (loW (Ap (loL L))))).setCell ⟨w.heap.size,7,none⟩ (.int .i64 (hiW (Ap (hiL L))))).setCell ⟨w.heap.size,8,none⟩ (.int .u64 (loW (Ap (hiL L)))))).same D _ hK rfl
   obtain⟨W9,hW9⟩:∃W9,W9=(((((((((W.setCell ⟨w.heap.size,0,none⟩ (.int .i64 (L.length:Int))).setCell ⟨w.heap.size,1,none⟩ (.int .i64 (Bh (loL L)))).setCell ⟨w.heap.size,2,none⟩ (.int .i64 (Bh (hiL L)))).setCell ⟨w.heap.size,3,none⟩ (.int .i64 (Bi (loL L)))).setCell ⟨w.heap.size,4,none⟩ (.int .i64 (Bi (hiL L)))).setCell ⟨w.heap.size,5,none⟩ (.int .i64 (hiW (Ap (loL L))))).setCell ⟨w.heap.size,6,none⟩ (.int .u64 (loW (Ap (loL L))))).setCell ⟨w.heap.size,7,none⟩ (.int .i64 (hiW (Ap (hiL L))))).setCell ⟨w.heap.size,8,none⟩ (.int .u64 (loW (Ap (hiL L))))):=⟨_,rfl⟩
   rw[<-hW9] at b9 hB9 hK9⊢
   clear hW9
   have b9':Blk (W9.putObj D (.deferred none)) w.heap.size (shA L) 38:=(World.putObj_heap_other (by omega)).trans b9
   simp only[bodyPostM]
   refine⟨by simp,.inl ⟨_,_,rfl,run_takeDeferred hK9,?_⟩⟩
   unfold shA at b9'
   have k9:=b9'.cell
   have y9:=b9'.lt
   refine⟨.tuple #[.agg (shA L),.int .i64 0],by unfold shA;simp[results,Tryz.f105,go_sem,k9],hw.out,hB9.trans (belowK_b (w:=w) (Nat.le_refl _) W9 D _ _ (by omega) hK9 rfl rfl)⟩
end Go.Proofs.YtidfcoooccblaaaGreat
namespace Go.Proofs.YtidfcoooccblaaaGreat
open Go.RowKit
theorem told_bad (nm:ByteArray) (ep fl la sc:Int) (ps po:Option Addr) (ns cs no co:Nat) (gs ga gb:Nat) (w:World)
  (c1:∀W,Below w.heap.size w W->Cb 14 #[.agg #[.string nm,ep,fl,la,sc,.slice ps ns cs,.slice po no co]] W (.int .i64 340)):
  Cb 104 #[.agg #[.string nm,ep,fl,la,sc,.slice ps ns cs,.slice po no co],.func (.func 105) #[] #[.pointer (some ⟨gs,0,none⟩),.pointer (some ⟨ga,0,none⟩),.pointer (some ⟨gb,0,none⟩)]] w (.tuple #[.agg #[.int .i64 0,.int .i64 0,.int .i64 0,.int .i64 0,.int .i64 0,.int .i64 0,.int .u64 0,.int .i64 0,.int .u64 0],.int .i64 340]):=by
 have H_c1:=Hd c1
 clear c1
 go_enter Tryz.func104,Tryz.ntmps104
 go_wp2_with fail
 refine(H_c1.out _ Aa).mono ?_
 rintro e w1 ⟨rfl,hb1⟩
 have z2:=hb1.size
 try simp at z2
 refine Ae w w1 (Bc w.heap.size #[.string nm,ep,fl,la,sc,.slice ps ns cs,.slice po no co] 25<|Bc (w.heap.size+1) #[.int .i64 0,.int .i64 0,.int .i64 0,.int .i64 0,.int .i64 0,.int .i64 0,.int .u64 0,.int .i64 0,.int .u64 0] 38<|Bz) ?_
 rintro hW z3 ⟨⟨b1,yb1,k1,f1⟩,⟨b2,yb2,k2,f2⟩,-⟩
 clear hb1
 go_wp2
 refine bodyPost_ret (by simp[results,Tryz.results104,go_sem,k1,f1,k2,f2,yb1,yb2]) rfl ⟨rfl,by exact Aa⟩
theorem told_ok (nm:ByteArray) (ep fl la sc:Int) (ps po:Option Addr) (ns cs no co:Nat) (gs ga gb:Nat) (n x1 x2 y1 y2 s1 s2 s3 s4 er:Int) (w:World)
  (c1:∀W,Below w.heap.size w W->Cb 14 #[.agg #[.string nm,ep,fl,la,sc,.slice ps ns cs,.slice po no co]] W (.int .i64 0))
  (c2:∀W,Below w.heap.size w W->Cb 105 #[.pointer (some ⟨gs,0,none⟩),.pointer (some ⟨ga,0,none⟩),.pointer (some ⟨gb,0,none⟩)] W (.tuple #[.agg #[n,x1,x2,y1,y2,s1,.int .u64 s2,s3,.int .u64 s4],er])):
  Cb 104 #[.agg #[.string nm,ep,fl,la,sc,.slice ps ns cs,.slice po no co],.func (.func 105) #[] #[.pointer (some ⟨gs,0,none⟩),.pointer (some ⟨ga,0,none⟩),.pointer (some ⟨gb,0,none⟩)]] w (.tuple #[.agg #[n,x1,x2,y1,y2,s1,.int .u64 s2,s3,.int .u64 s4],er]):=by
 have H_c1:=Hd c1
 clear c1
 have H_c2:=Hd c2
 clear c2
 go_enter Tryz.func104,Tryz.ntmps104
 go_wp2_with fail
 refine(H_c1.out _ Aa).mono ?_
 rintro e w1 ⟨rfl,hb1⟩
 have z2:=hb1.size
 try simp at z2
 refine Ae w w1 (Bc w.heap.size #[.string nm,ep,fl,la,sc,.slice ps ns cs,.slice po no co] 25<|Bc (w.heap.size+1) #[.int .i64 0,.int .i64 0,.int .i64 0,.int .i64 0,.int .i64 0,.int .i64 0,.int .u64 0,.int .i64 0,.int .u64 0] 38<|Bz) ?_
 rintro hW z3 ⟨⟨b1,yb1,k1,f1⟩,⟨b2,yb2,k2,f2⟩,-⟩
 clear hb1
 go_wp2_with fail
 refine(H_c2.out _ Aa).mono ?_
 rintro e w4 ⟨rfl,hb4⟩
 have z5:=hb4.size
 try simp at z5
 clear k1 f1 k2 f2
 refine Ae w w4 (Bc w.heap.size #[.string nm,ep,fl,la,sc,.slice ps ns cs,.slice po no co] 25<|Bc (w.heap.size+1) #[.int .i64 0,.int .i64 0,.int .i64 0,.int .i64 0,.int .i64 0,.int .i64 0,.int .u64 0,.int .i64 0,.int .u64 0] 38<|Bz) ?_
 clear b1 b2 hW
 rintro hW z6 ⟨⟨b1,yb1,k1,f1⟩,⟨b2,yb2,k2,f2⟩,-⟩
 clear hb4
 go_wp2
 refine bodyPost_ret (by simp[results,Tryz.results104,go_sem,k1,f1,k2,f2,yb1,yb2]) rfl ⟨rfl,by exact Aa⟩
theorem whole_w (nm:ByteArray) (ep fl la sc:Int) (ps po:Option Addr) (ns cs no co:Nat) (a b:Int) (n x1 x2 y1 y2 s1 s2 s3 s4 er:Int) (w:World)
  (c1:∀W,Below w.heap.size w W->Blk W w.heap.size #[.string nm,ep,fl,la,sc,.slice ps ns cs,.slice po no co] 25->Blk W (w.heap.size+1) #[a] 2->Blk W (w.heap.size+1+1) #[b] 2->Cb 104 #[.agg #[.string nm,ep,fl,la,sc,.slice ps ns cs,.slice po no co],.func (.func 105) #[] #[.pointer (some ⟨w.heap.size,0,none⟩),.pointer (some ⟨w.heap.size+1,0,none⟩),.pointer (some ⟨w.heap.size+1+1,0,none⟩)]] W (.tuple #[.agg #[n,x1,x2,y1,y2,s1,.int .u64 s2,s3,.int .u64 s4],er])):
  Cb 51 #[.agg #[.string nm,ep,fl,la,sc,.slice ps ns cs,.slice po no co],a,b] w (.tuple #[.agg #[n,x1,x2,y1,y2,s1,.int .u64 s2,s3,.int .u64 s4],er]):=by
 have H_c1:=Hd c1
 clear c1
 go_enter Tryz.func51,Tryz.ntmps51
 have hmf:∀(fn:Fn) (first cap:Array Value) (w:World),(Instr.makeFunc fn first cap).run Tryz.prog w= .ok (.func fn first cap) w:=fun _ _ _ _=>rfl
 go_upto_region 1 with(fail)
 refine Ad w (Bc w.heap.size #[.string nm,ep,fl,la,sc,.slice ps ns cs,.slice po no co] 25<|Bc (w.heap.size+1) #[a] 2<|Bc (w.heap.size+1+1) #[b] 2<|Bc (w.heap.size+1+1+1) #[.int .i64 0,.int .i64 0,.int .i64 0,.int .i64 0,.int .i64 0,.int .i64 0,.int .u64 0,.int .i64 0,.int .u64 0] 38<|Bz) ?_
 rintro W1 hW z2 ⟨⟨b1,yb1,k1,f1⟩,⟨b2,yb2,k2,f2⟩,⟨b3,yb3,k3,f3⟩,⟨b4,yb4,k4,f4⟩,-⟩
 go_wp2_with fail
 refine(H_c1.out W1 hW b1 b2 b3).mono ?_
 rintro e w3 ⟨rfl,hb3⟩
 have z4:=hb3.size
 try simp at z4
 clear k1 f1 k2 f2 k3 f3 k4 f4
 refine Ae w w3 (Bc w.heap.size #[.string nm,ep,fl,la,sc,.slice ps ns cs,.slice po no co] 25<|Bc (w.heap.size+1) #[a] 2<|Bc (w.heap.size+1+1) #[b] 2<|Bc (w.heap.size+1+1+1) #[.int .i64 0,.int .i64 0,.int .i64 0,.int .i64 0,.int .i64 0,.int .i64 0,.int .u64 0,.int .i64 0,.int .u64 0] 38<|Bz) ?_
 clear b1 b2 b3 b4 hW
 rintro hW z5 ⟨⟨b1,yb1,k1,f1⟩,⟨b2,yb2,k2,f2⟩,⟨b3,yb3,k3,f3⟩,⟨b4,yb4,k4,f4⟩,-⟩
 clear hb3
 go_wp2
 refine bodyPost_ret (by simp[results,Tryz.results51,go_sem,k1,f1,k2,f2,k3,f3,k4,f4,yb1,yb2,yb3,yb4]) rfl ⟨rfl,by exact Aa⟩
theorem anLeast_w (nm:ByteArray) (ep fl la sc:Int) (ps po:Option Addr) (ns cs no co:Nat) (a b:Int) (n x1 x2 y1 y2 s1 s2 s3 s4 er:Int) (w:World)
  (c1:∀W,Below w.heap.size w W->Cb 51 #[.agg #[.string nm,ep,fl,la,sc,.slice ps ns cs,.slice po no co],a,b] W (.tuple #[.agg #[n,x1,x2,y1,y2,s1,.int .u64 s2,s3,.int .u64 s4],er])):
  Cb 17 #[.agg #[.string nm,ep,fl,la,sc,.slice ps ns cs,.slice po no co],a,b] w (.tuple #[.agg #[x1,x2],er]):=by
 have H_c1:=Hd c1
 clear c1
 go_enter Tryz.func17,Tryz.ntmps17
 go_wp2_with fail
 refine(H_c1.out _ Aa).mono ?_
 rintro e w1 ⟨rfl,hb1⟩
 have z2:=hb1.size
 try simp at z2
 refine Ae w w1 (Bc w.heap.size #[.string nm,ep,fl,la,sc,.slice ps ns cs,.slice po no co] 25<|Bc (w.heap.size+1) #[.int .i64 0,.int .i64 0] 33<|Bz) ?_
 rintro hW z3 ⟨⟨b1,yb1,k1,f1⟩,⟨b2,yb2,k2,f2⟩,-⟩
 clear hb1
 go_wp2
 refine bodyPost_ret (by simp[results,Tryz.results17,go_sem,k1,f1,k2,f2,yb1,yb2]) rfl ⟨rfl,by exact Aa⟩
theorem anMost_w (nm:ByteArray) (ep fl la sc:Int) (ps po:Option Addr) (ns cs no co:Nat) (a b:Int) (n x1 x2 y1 y2 s1 s2 s3 s4 er:Int) (w:World)
  (c1:∀W,Below w.heap.size w W->Cb 51 #[.agg #[.string nm,ep,fl,la,sc,.slice ps ns cs,.slice po no co],a,b] W (.tuple #[.agg #[n,x1,x2,y1,y2,s1,.int .u64 s2,s3,.int .u64 s4],er])):
  Cb 18 #[.agg #[.string nm,ep,fl,la,sc,.slice ps ns cs,.slice po no co],a,b] w (.tuple #[.agg #[y1,y2],er]):=by
 have H_c1:=Hd c1
 clear c1
 go_enter Tryz.func18,Tryz.ntmps18
 go_wp2_with fail
 refine(H_c1.out _ Aa).mono ?_
 rintro e w1 ⟨rfl,hb1⟩
 have z2:=hb1.size
 try simp at z2
 refine Ae w w1 (Bc w.heap.size #[.string nm,ep,fl,la,sc,.slice ps ns cs,.slice po no co] 25<|Bc (w.heap.size+1) #[.int .i64 0,.int .i64 0] 33<|Bz) ?_
 rintro hW z3 ⟨⟨b1,yb1,k1,f1⟩,⟨b2,yb2,k2,f2⟩,-⟩
 clear hb1
 go_wp2
 refine bodyPost_ret (by simp[results,Tryz.results18,go_sem,k1,f1,k2,f2,yb1,yb2]) rfl ⟨rfl,by exact Aa⟩
theorem anCount_9 (nm:ByteArray) (ep fl la sc:Int) (ps po:Option Addr) (ns cs no co:Nat) (a b:Int) (n x1 x2 y1 y2 s1 s2 s3 s4 er:Int) (w:World) (her:er=9)
  (c1:∀W,Below w.heap.size w W->Cb 51 #[.agg #[.string nm,ep,fl,la,sc,.slice ps ns cs,.slice po no co],a,b] W (.tuple #[.agg #[n,x1,x2,y1,y2,s1,.int .u64 s2,s3,.int .u64 s4],er])):
  Cb 13 #[.agg #[.string nm,ep,fl,la,sc,.slice ps ns cs,.slice po no co],a,b] w (.tuple #[.int .i64 0,.int .i64 0]):=by
 subst her
 have H_c1:=Hd c1
 clear c1
 go_enter Tryz.func13,Tryz.ntmps13
 go_wp2_with fail
 refine(H_c1.out _ Aa).mono ?_
 rintro e w1 ⟨rfl,hb1⟩
 have z2:=hb1.size
 try simp at z2
 refine Ae w w1 (Bc w.heap.size #[.string nm,ep,fl,la,sc,.slice ps ns cs,.slice po no co] 25<|Bz) ?_
 rintro hW z3 ⟨⟨b1,yb1,k1,f1⟩,-⟩
 clear hb1
 go_wp2
 refine bodyPost_ret (by simp[results,Tryz.results13,go_sem,k1,f1,yb1]) rfl ⟨rfl,by exact Aa⟩
theorem anCount_n (nm:ByteArray) (ep fl la sc:Int) (ps po:Option Addr) (ns cs no co:Nat) (a b:Int) (n x1 x2 y1 y2 s1 s2 s3 s4 er:Int) (w:World) (her:er≠9)
  (c1:∀W,Below w.heap.size w W->Cb 51 #[.agg #[.string nm,ep,fl,la,sc,.slice ps ns cs,.slice po no co],a,b] W (.tuple #[.agg #[n,x1,x2,y1,y2,s1,.int .u64 s2,s3,.int .u64 s4],er])):
  Cb 13 #[.agg #[.string nm,ep,fl,la,sc,.slice ps ns cs,.slice po no co],a,b] w (.tuple #[n,er]):=by
 have H_c1:=Hd c1
 clear c1
 go_enter Tryz.func13,Tryz.ntmps13
 go_wp2_with fail
 refine(H_c1.out _ Aa).mono ?_
 rintro e w1 ⟨rfl,hb1⟩
 have z2:=hb1.size
 try simp at z2
 refine Ae w w1 (Bc w.heap.size #[.string nm,ep,fl,la,sc,.slice ps ns cs,.slice po no co] 25<|Bz) ?_
 rintro hW z3 ⟨⟨b1,yb1,k1,f1⟩,-⟩
 clear hb1
 go_wp2
 refine bodyPost_ret (by simp[results,Tryz.results13,go_sem,k1,f1,yb1]) rfl ⟨rfl,by exact Aa⟩
theorem anSum_0 (nm:ByteArray) (ep fl la sc:Int) (ps po:Option Addr) (ns cs no co:Nat) (a b:Int) (n x1 x2 y1 y2 s1 s2 s3 s4 er:Int) (i1 i2 e1 e2:Int) (w:World) (her:er≠0)
  (c1:∀W,Below w.heap.size w W->Cb 51 #[.agg #[.string nm,ep,fl,la,sc,.slice ps ns cs,.slice po no co],a,b] W (.tuple #[.agg #[n,x1,x2,y1,y2,s1,.int .u64 s2,s3,.int .u64 s4],er]))
   :
  Cb 19 #[.agg #[.string nm,ep,fl,la,sc,.slice ps ns cs,.slice po no co],a,b] w (.tuple #[.agg #[.int .i64 0,.int .i64 0],er]):=by
 have H_c1:=Hd c1
 clear c1
 go_enter Tryz.func19,Tryz.ntmps19
 go_wp2_with fail
 refine(H_c1.out _ Aa).mono ?_
 rintro e w1 ⟨rfl,hb1⟩
 have z2:=hb1.size
 try simp at z2
 refine Ae w w1 (Bc w.heap.size #[.string nm,ep,fl,la,sc,.slice ps ns cs,.slice po no co] 25<|Bc (w.heap.size+1) #[.int .i64 0,.int .i64 0] 33<|Bz) ?_
 rintro hW z3 ⟨⟨b1,yb1,k1,f1⟩,⟨b2,yb2,k2,f2⟩,-⟩
 clear hb1
 go_wp2
 refine bodyPost_ret (by simp[results,Tryz.results19,go_sem,k1,f1,k2,f2,yb1,yb2]) rfl ⟨rfl,by exact Aa⟩
theorem anSum_1 (nm:ByteArray) (ep fl la sc:Int) (ps po:Option Addr) (ns cs no co:Nat) (a b:Int) (n x1 x2 y1 y2 s1 s2 s3 s4 er:Int) (i1 i2 e1 e2:Int) (w:World) (her:er=0)
  (c1:∀W,Below w.heap.size w W->Cb 51 #[.agg #[.string nm,ep,fl,la,sc,.slice ps ns cs,.slice po no co],a,b] W (.tuple #[.agg #[n,x1,x2,y1,y2,s1,.int .u64 s2,s3,.int .u64 s4],er]))
  (c2:∀W,Below w.heap.size w W->Cb 60 #[.agg #[s1,.int .u64 s2]] W (.tuple #[i1,.int .i64 0]))
  (c3:∀W,Below w.heap.size w W->Cb 60 #[.agg #[s3,.int .u64 s4]] W (.tuple #[i2,.int .i64 0])):
  Cb 19 #[.agg #[.string nm,ep,fl,la,sc,.slice ps ns cs,.slice po no co],a,b] w (.tuple #[.agg #[i1,i2],.int .i64 0]):=by
 subst her
 have H_c1:=Hd c1
 clear c1
 have H_c2:=Hd c2
 clear c2
 have H_c3:=Hd c3
 clear c3
 go_enter Tryz.func19,Tryz.ntmps19
 go_wp2_with fail
 refine(H_c1.out _ Aa).mono ?_
 rintro e w1 ⟨rfl,hb1⟩
 have z2:=hb1.size
 try simp at z2
 refine Ae w w1 (Bc w.heap.size #[.string nm,ep,fl,la,sc,.slice ps ns cs,.slice po no co] 25<|Bc (w.heap.size+1) #[.int .i64 0,.int .i64 0] 33<|Bz) ?_
 rintro hW z3 ⟨⟨b1,yb1,k1,f1⟩,⟨b2,yb2,k2,f2⟩,-⟩
 clear hb1
 go_wp2_with fail
 refine(H_c2.out _ Aa).mono ?_
 rintro e w4 ⟨rfl,hb4⟩
 have z5:=hb4.size
 try simp at z5
 clear k1 f1 k2 f2
 refine Ae w w4 (Bc w.heap.size #[.string nm,ep,fl,la,sc,.slice ps ns cs,.slice po no co] 25<|Bc (w.heap.size+1) #[.int .i64 0,.int .i64 0] 33<|Bc w1.heap.size #[n,x1,x2,y1,y2,s1,.int .u64 s2,s3,.int .u64 s4] 38<|Bz) ?_
 clear b1 b2 hW
 rintro hW z6 ⟨⟨b1,yb1,k1,f1⟩,⟨b2,yb2,k2,f2⟩,⟨b3,yb3,k3,f3⟩,-⟩
 clear hb4
 go_wp2_with fail
 refine(H_c3.out _ Aa).mono ?_
 rintro e w7 ⟨rfl,hb7⟩
 have z8:=hb7.size
 try simp at z8
 clear k1 f1 k2 f2 k3 f3
 refine Ae w w7 (Bc w.heap.size #[.string nm,ep,fl,la,sc,.slice ps ns cs,.slice po no co] 25<|Bc (w.heap.size+1) #[.int .i64 0,.int .i64 0] 33<|Bc w1.heap.size #[n,x1,x2,y1,y2,s1,.int .u64 s2,s3,.int .u64 s4] 38<|Bz) ?_
 clear b1 b2 b3 hW
 rintro hW z9 ⟨⟨b1,yb1,k1,f1⟩,⟨b2,yb2,k2,f2⟩,⟨b3,yb3,k3,f3⟩,-⟩
 clear hb7
 go_wp2
 refine bodyPost_ret (by simp[results,Tryz.results19,go_sem,k1,f1,k2,f2,k3,f3,yb1,yb2,yb3]) rfl ⟨rfl,by exact Aa⟩
theorem anSum_2 (nm:ByteArray) (ep fl la sc:Int) (ps po:Option Addr) (ns cs no co:Nat) (a b:Int) (n x1 x2 y1 y2 s1 s2 s3 s4 er:Int) (i1 i2 e1 e2:Int) (w:World) (her:er=0) (h1:e1≠0)
  (c1:∀W,Below w.heap.size w W->Cb 51 #[.agg #[.string nm,ep,fl,la,sc,.slice ps ns cs,.slice po no co],a,b] W (.tuple #[.agg #[n,x1,x2,y1,y2,s1,.int .u64 s2,s3,.int .u64 s4],er]))
  (c2:∀W,Below w.heap.size w W->Cb 60 #[.agg #[s1,.int .u64 s2]] W (.tuple #[i1,e1]))
  (c3:∀W,Below w.heap.size w W->Cb 60 #[.agg #[s3,.int .u64 s4]] W (.tuple #[i2,e2])):
  Cb 19 #[.agg #[.string nm,ep,fl,la,sc,.slice ps ns cs,.slice po no co],a,b] w (.tuple #[.agg #[.int .i64 0,.int .i64 0],.int .i64 5]):=by
 subst her
 have H_c1:=Hd c1
 clear c1
 have H_c2:=Hd c2
 clear c2
 have H_c3:=Hd c3
 clear c3
 go_enter Tryz.func19,Tryz.ntmps19
 go_wp2_with fail
 refine(H_c1.out _ Aa).mono ?_
 rintro e w1 ⟨rfl,hb1⟩
 have z2:=hb1.size
 try simp at z2
 refine Ae w w1 (Bc w.heap.size #[.string nm,ep,fl,la,sc,.slice ps ns cs,.slice po no co] 25<|Bc (w.heap.size+1) #[.int .i64 0,.int .i64 0] 33<|Bz) ?_
 rintro hW z3 ⟨⟨b1,yb1,k1,f1⟩,⟨b2,yb2,k2,f2⟩,-⟩
 clear hb1
 go_wp2_with fail
 refine(H_c2.out _ Aa).mono ?_
 rintro e w4 ⟨rfl,hb4⟩
 have z5:=hb4.size
 try simp at z5
 clear k1 f1 k2 f2
 refine Ae w w4 (Bc w.heap.size #[.string nm,ep,fl,la,sc,.slice ps ns cs,.slice po no co] 25<|Bc (w.heap.size+1) #[.int .i64 0,.int .i64 0] 33<|Bc w1.heap.size #[n,x1,x2,y1,y2,s1,.int .u64 s2,s3,.int .u64 s4] 38<|Bz) ?_
 clear b1 b2 hW
 rintro hW z6 ⟨⟨b1,yb1,k1,f1⟩,⟨b2,yb2,k2,f2⟩,⟨b3,yb3,k3,f3⟩,-⟩
 clear hb4
 go_wp2_with fail
 refine(H_c3.out _ Aa).mono ?_
 rintro e w7 ⟨rfl,hb7⟩
 have z8:=hb7.size
 try simp at z8
 clear k1 f1 k2 f2 k3 f3
 refine Ae w w7 (Bc w.heap.size #[.string nm,ep,fl,la,sc,.slice ps ns cs,.slice po no co] 25<|Bc (w.heap.size+1) #[.int .i64 0,.int .i64 0] 33<|Bc w1.heap.size #[n,x1,x2,y1,y2,s1,.int .u64 s2,s3,.int .u64 s4] 38<|Bz) ?_
 clear b1 b2 b3 hW
 rintro hW z9 ⟨⟨b1,yb1,k1,f1⟩,⟨b2,yb2,k2,f2⟩,⟨b3,yb3,k3,f3⟩,-⟩
 clear hb7
 go_wp2
 refine bodyPost_ret (by simp[results,Tryz.results19,go_sem,k1,f1,k2,f2,k3,f3,yb1,yb2,yb3]) rfl ⟨rfl,by exact Aa⟩
theorem anSum_3 (nm:ByteArray) (ep fl la sc:Int) (ps po:Option Addr) (ns cs no co:Nat) (a b:Int) (n x1 x2 y1 y2 s1 s2 s3 s4 er:Int) (i1 i2 e1 e2:Int) (w:World) (her:er=0) (h2:e2≠0)
  (c1:∀W,Below w.heap.size w W->Cb 51 #[.agg #[.string nm,ep,fl,la,sc,.slice ps ns cs,.slice po no co],a,b] W (.tuple #[.agg #[n,x1,x2,y1,y2,s1,.int .u64 s2,s3,.int .u64 s4],er]))
  (c2:∀W,Below w.heap.size w W->Cb 60 #[.agg #[s1,.int .u64 s2]] W (.tuple #[i1,.int .i64 0]))
  (c3:∀W,Below w.heap.size w W->Cb 60 #[.agg #[s3,.int .u64 s4]] W (.tuple #[i2,e2])):
  Cb 19 #[.agg #[.string nm,ep,fl,la,sc,.slice ps ns cs,.slice po no co],a,b] w (.tuple #[.agg #[.int .i64 0,.int .i64 0],.int .i64 5]):=by
 subst her
 have H_c1:=Hd c1
 clear c1
 have H_c2:=Hd c2
 clear c2
 have H_c3:=Hd c3
 clear c3
 go_enter Tryz.func19,Tryz.ntmps19
 go_wp2_with fail
 refine(H_c1.out _ Aa).mono ?_
 rintro e w1 ⟨rfl,hb1⟩
 have z2:=hb1.size
 try simp at z2
 refine Ae w w1 (Bc w.heap.size #[.string nm,ep,fl,la,sc,.slice ps ns cs,.slice po no co] 25<|Bc (w.heap.size+1) #[.int .i64 0,.int .i64 0] 33<|Bz) ?_
 rintro hW z3 ⟨⟨b1,yb1,k1,f1⟩,⟨b2,yb2,k2,f2⟩,-⟩
 clear hb1
 go_wp2_with fail
 refine(H_c2.out _ Aa).mono ?_
 rintro e w4 ⟨rfl,hb4⟩
 have z5:=hb4.size
 try simp at z5
 clear k1 f1 k2 f2
 refine Ae w w4 (Bc w.heap.size #[.string nm,ep,fl,la,sc,.slice ps ns cs,.slice po no co] 25<|Bc (w.heap.size+1) #[.int .i64 0,.int .i64 0] 33<|Bc w1.heap.size #[n,x1,x2,y1,y2,s1,.int .u64 s2,s3,.int .u64 s4] 38<|Bz) ?_
 clear b1 b2 hW
 rintro hW z6 ⟨⟨b1,yb1,k1,f1⟩,⟨b2,yb2,k2,f2⟩,⟨b3,yb3,k3,f3⟩,-⟩
 clear hb4
 go_wp2_with fail
 refine(H_c3.out _ Aa).mono ?_
 rintro e w7 ⟨rfl,hb7⟩
 have z8:=hb7.size
 try simp at z8
 clear k1 f1 k2 f2 k3 f3
 refine Ae w w7 (Bc w.heap.size #[.string nm,ep,fl,la,sc,.slice ps ns cs,.slice po no co] 25<|Bc (w.heap.size+1) #[.int .i64 0,.int .i64 0] 33<|Bc w1.heap.size #[n,x1,x2,y1,y2,s1,.int .u64 s2,s3,.int .u64 s4] 38<|Bz) ?_
 clear b1 b2 b3 hW
 rintro hW z9 ⟨⟨b1,yb1,k1,f1⟩,⟨b2,yb2,k2,f2⟩,⟨b3,yb3,k3,f3⟩,-⟩
 clear hb7
 go_wp2
 refine bodyPost_ret (by simp[results,Tryz.results19,go_sem,k1,f1,k2,f2,k3,f3,yb1,yb2,yb3]) rfl ⟨rfl,by exact Aa⟩
theorem anMean_0 (nm:ByteArray) (ep fl la sc:Int) (ps po:Option Addr) (ns cs no co:Nat) (a b:Int) (n x1 x2 y1 y2 s1 s2 s3 s4 er:Int) (w:World) (her:er≠0)
  (c1:∀W,Below w.heap.size w W->Cb 51 #[.agg #[.string nm,ep,fl,la,sc,.slice ps ns cs,.slice po no co],a,b] W (.tuple #[.agg #[n,x1,x2,y1,y2,s1,.int .u64 s2,s3,.int .u64 s4],er])):
  Cb 20 #[.agg #[.string nm,ep,fl,la,sc,.slice ps ns cs,.slice po no co],a,b] w (.tuple #[.agg #[.int .i64 0,.int .i64 0,.int .i64 0,.int .i64 0,.int .i64 0],er]):=by
 have H_c1:=Hd c1
 clear c1
 go_enter Tryz.func20,Tryz.ntmps20
 go_wp2_with fail
 refine(H_c1.out _ Aa).mono ?_
 rintro e w1 ⟨rfl,hb1⟩
 have z2:=hb1.size
 try simp at z2
 refine Ae w w1 (Bc w.heap.size #[.string nm,ep,fl,la,sc,.slice ps ns cs,.slice po no co] 25<|Bc (w.heap.size+1) #[.int .i64 0,.int .i64 0,.int .i64 0,.int .i64 0,.int .i64 0] 49<|Bz) ?_
 rintro hW z3 ⟨⟨b1,yb1,k1,f1⟩,⟨b2,yb2,k2,f2⟩,-⟩
 clear hb1
 go_wp2
 refine bodyPost_ret (by simp[results,Tryz.results20,go_sem,k1,f1,k2,f2,yb1,yb2]) rfl ⟨rfl,by exact Aa⟩
def meRel (w:World) (n x1 x2 y1 y2 s1 s2 s3 s4 m1 r1 m2 r2:Int) (g:Nat) (a':Act) (W:World):Prop:=
 Below w.heap.size w W/\Blk W (w.heap.size+1) #[.int .i64 0,.int .i64 0,.int .i64 0,.int .i64 0,.int .i64 0] 49/\Blk W g #[n,x1,x2,y1,y2,s1,.int .u64 s2,s3,.int .u64 s4] 38/\∃i:Nat,Blk W (g+1) #[.int .i64 (Tn i m1),.int .i64 (Tn i r1),.int .i64 (Tm i m2),.int .i64 (Tm i r2)] 119/\(∃u:Nat->Value,a'= {tmps:= #[u 0,u 1,u 2,u 3,u 4,u 5,.pointer (some ⟨(w.heap.size+1),0,none⟩),u 7,.pointer (some ⟨g,0,none⟩),.int .i64 0,.pointer (some ⟨(g+1),0,none⟩),u 11,u 12,u 13,u 14,u 15,u 16,u 17,u 18,u 19,u 20,u 21,u 22,u 23,u 24,u 25,u 26,u 27,u 28,u 29,u 30,.agg #[s1,.int .u64 s2,s3,.int .u64 s4],.int .i64 (i:Int),u 33,u 34,u 35,u 36,u 37,u 38,u 39,u 40,u 41,u 42,u 43,u 44,u 45,u 46,u 47,u 48,u 49,u 50,u 51,u 52,u 53,u 54,u 55,u 56,u 57,u 58,u 59,u 60,u 61,u 62,u 63],defers:= []})/\i<=2
theorem anMean_1 (nm:ByteArray) (ep fl la sc:Int) (ps po:Option Addr) (ns cs no co:Nat) (a b:Int) (n x1 x2 y1 y2 s1 s2 s3 s4 q1 q2 q3 q4 r1 r2 m1 m2 e1 e2:Int) (w:World)
  (c1:∀W,Below w.heap.size w W->Cb 51 #[.agg #[.string nm,ep,fl,la,sc,.slice ps ns cs,.slice po no co],a,b] W (.tuple #[.agg #[n,x1,x2,y1,y2,s1,.int .u64 s2,s3,.int .u64 s4],.int .i64 0]))
  (c2:∀W,Cb 61 #[.agg #[s1,.int .u64 s2],n] W (.tuple #[.agg #[q1,.int .u64 q2],r1,.int .i64 0]))
  (c3:∀W,Cb 61 #[.agg #[s3,.int .u64 s4],n] W (.tuple #[.agg #[q3,.int .u64 q4],r2,.int .i64 0]))
  (c4:∀W,Cb 60 #[.agg #[q1,.int .u64 q2]] W (.tuple #[m1,e1]))
  (c5:∀W,Cb 60 #[.agg #[q3,.int .u64 q4]] W (.tuple #[m2,e2])):
  Cb 20 #[.agg #[.string nm,ep,fl,la,sc,.slice ps ns cs,.slice po no co],a,b] w (.tuple #[.agg #[n,m1,r1,m2,r2],.int .i64 0]):=by
 replace c2:=Hd c2
 replace c3:=Hd c3
 replace c4:=Hd c4
 replace c5:=Hd c5
 have H_c1:=Hd c1
 clear c1
 go_enter Tryz.func20,Tryz.ntmps20
 go_wp2_with fail
 refine(H_c1.out _ Aa).mono ?_
 rintro e w1 ⟨rfl,hb1⟩
 have z2:=hb1.size
 try simp at z2
 refine Ae w w1 (Bc w.heap.size #[.string nm,ep,fl,la,sc,.slice ps ns cs,.slice po no co] 25<|Bc (w.heap.size+1) #[.int .i64 0,.int .i64 0,.int .i64 0,.int .i64 0,.int .i64 0] 49<|Bz) ?_
 rintro hW z3 ⟨⟨b1,yb1,k1,f1⟩,⟨b2,yb2,k2,f2⟩,-⟩
 clear hb1
 clear H_c1
 go_upto_region 5 with(fail)
 clear k1 f1 k2 f2
 refine Ad w (Bc (w.heap.size+1) #[.int .i64 0,.int .i64 0,.int .i64 0,.int .i64 0,.int .i64 0] 49<|Bc w1.heap.size #[n,x1,x2,y1,y2,s1,.int .u64 s2,s3,.int .u64 s4] 38<|Bc (w1.heap.size+1) #[.int .i64 0,.int .i64 0,.int .i64 0,.int .i64 0] 119<|Bz) ?_
 clear b1 b2 hW
 rintro W4 hW z5 ⟨⟨b1,yb1,k1,f1⟩,⟨b2,yb2,k2,f2⟩,⟨b3,yb3,k3,f3⟩,-⟩
 go_wp2
 have hg2:w.heap.size+1<w1.heap.size:=by omega
 obtain⟨g,hg⟩:∃g,w1.heap.size=g:=⟨_,rfl⟩
 rw[hg] at hg2 b2 b3⊢
 refine wp_loop (meRel w n x1 x2 y1 y2 s1 s2 s3 s4 m1 r1 m2 r2 g) (fun a' _=>2-(Ak (a'.tmps.getD 32 undef)).toNat) ?_ ?_
 ·unfold meRel
  exact⟨hW,b1,b2,0,b3,Ac rfl,by omega⟩
 clear hg hW b1 b2 b3 k1 f1 k2 f2 k3 f3
 rintro a' W ⟨hW0,b1,b2,i,b3,⟨u,rfl⟩,hi'⟩
 have hz:=hW0.size
 have zb1:=b1.lt
 have zb2:=b2.lt
 have zb3:=b3.lt
 have hi3:i=0∨i=1∨i=2:=by omega
 rcases hi3 with rfl|rfl|rfl
 ·replace b3:Blk W (g+1) #[.int .i64 0,.int .i64 0,.int .i64 0,.int .i64 0] 119:=by simpa [Tn,Tm] using b3
  have k1:=b1.cell
  have f1:=b1.frozen
  have k2:=b2.cell
  have f2:=b2.frozen
  have k3:=b3.cell
  have f3:=b3.frozen
  have hix:∀W:World,(Instr.index 120 (.agg #[s1,.int .u64 s2,s3,.int .u64 s4]) (.int .i64 0)).run Tryz.prog W= .ok (.agg #[s1,.int .u64 s2]) W:=fun _=>rfl
  go_wp2_with fail
  refine(c2.out _).mono ?_
  rintro e w21 ⟨rfl,hb21⟩
  have z22:=hb21.size
  try simp at z22
  clear k1 f1 k2 f2 k3 f3
  refine Ae W w21 (Bc (w.heap.size+1) #[.int .i64 0,.int .i64 0,.int .i64 0,.int .i64 0,.int .i64 0] 49<|Bc g #[n,x1,x2,y1,y2,s1,.int .u64 s2,s3,.int .u64 s4] 38<|Bc (g+1) #[.int .i64 0,.int .i64 0,.int .i64 0,.int .i64 0] 119<|Bc W.heap.size #[s1,.int .u64 s2] 36<|Bz) ?_
  clear b1 b2 b3
  rintro hW z23 ⟨⟨b1,yb1,k1,f1⟩,⟨b2,yb2,k2,f2⟩,⟨b3,yb3,k3,f3⟩,⟨b4,yb4,k4,f4⟩,-⟩
  clear hb21
  go_wp2_with fail
  refine(c4.out _).mono ?_
  rintro e w24 ⟨rfl,hb24⟩
  have z25:=hb24.size
  try simp at z25
  clear k1 f1 k2 f2 k3 f3 k4 f4
  refine Ae W w24 (Bc (w.heap.size+1) #[.int .i64 0,.int .i64 0,.int .i64 0,.int .i64 0,.int .i64 0] 49<|Bc g #[n,x1,x2,y1,y2,s1,.int .u64 s2,s3,.int .u64 s4] 38<|Bc (g+1) #[.int .i64 0,.int .i64 0,.int .i64 0,.int .i64 0] 119<|Bc W.heap.size #[s1,.int .u64 s2] 36<|Bc w21.heap.size #[q1,.int .u64 q2] 36<|Bz) ?_
  clear b1 b2 b3 b4 hW
  rintro hW z26 ⟨⟨b1,yb1,k1,f1⟩,⟨b2,yb2,k2,f2⟩,⟨b3,yb3,k3,f3⟩,⟨b4,yb4,k4,f4⟩,⟨b5,yb5,k5,f5⟩,-⟩
  clear hb24
  have hW9:=hW0.trans (hW.mono hz)
  clear hW
  go_wp2
  refine⟨?_,by simp[Ak]⟩
  unfold meRel
  exact⟨Aa,Ab,Ab,1,(Ab:Blk _ (g+1) #[m1,r1,.int .i64 0,.int .i64 0] 119),Ac rfl,by omega⟩
 ·replace b3:Blk W (g+1) #[m1,r1,.int .i64 0,.int .i64 0] 119:=by simpa [Tn,Tm] using b3
  have k1:=b1.cell
  have f1:=b1.frozen
  have k2:=b2.cell
  have f2:=b2.frozen
  have k3:=b3.cell
  have f3:=b3.frozen
  have hix:∀W:World,(Instr.index 120 (.agg #[s1,.int .u64 s2,s3,.int .u64 s4]) (.int .i64 1)).run Tryz.prog W= .ok (.agg #[s3,.int .u64 s4]) W:=fun _=>rfl
  go_wp2_with fail
  refine(c3.out _).mono ?_
  rintro e w21 ⟨rfl,hb21⟩
  have z22:=hb21.size
  try simp at z22
  clear k1 f1 k2 f2 k3 f3
  refine Ae W w21 (Bc (w.heap.size+1) #[.int .i64 0,.int .i64 0,.int .i64 0,.int .i64 0,.int .i64 0] 49<|Bc g #[n,x1,x2,y1,y2,s1,.int .u64 s2,s3,.int .u64 s4] 38<|Bc (g+1) #[m1,r1,.int .i64 0,.int .i64 0] 119<|Bc W.heap.size #[s3,.int .u64 s4] 36<|Bz) ?_
  clear b1 b2 b3
  rintro hW z23 ⟨⟨b1,yb1,k1,f1⟩,⟨b2,yb2,k2,f2⟩,⟨b3,yb3,k3,f3⟩,⟨b4,yb4,k4,f4⟩,-⟩
  clear hb21
  go_wp2_with fail
  refine(c5.out _).mono ?_
  rintro e w24 ⟨rfl,hb24⟩
  have z25:=hb24.size
  try simp at z25
  clear k1 f1 k2 f2 k3 f3 k4 f4
  refine Ae W w24 (Bc (w.heap.size+1) #[.int .i64 0,.int .i64 0,.int .i64 0,.int .i64 0,.int .i64 0] 49<|Bc g #[n,x1,x2,y1,y2,s1,.int .u64 s2,s3,.int .u64 s4] 38<|Bc (g+1) #[m1,r1,.int .i64 0,.int .i64 0] 119<|Bc W.heap.size #[s3,.int .u64 s4] 36<|Bc w21.heap.size #[q3,.int .u64 q4] 36<|Bz) ?_
  clear b1 b2 b3 b4 hW
  rintro hW z26 ⟨⟨b1,yb1,k1,f1⟩,⟨b2,yb2,k2,f2⟩,⟨b3,yb3,k3,f3⟩,⟨b4,yb4,k4,f4⟩,⟨b5,yb5,k5,f5⟩,-⟩
  clear hb24
  have hW9:=hW0.trans (hW.mono hz)
  clear hW
  go_wp2
  refine⟨?_,by simp[Ak]⟩
  unfold meRel
  exact⟨Aa,Ab,Ab,2,(Ab:Blk _ (g+1) #[m1,r1,m2,r2] 119),Ac rfl,by omega⟩
 ·replace b3:Blk W (g+1) #[m1,r1,m2,r2] 119:=by simpa [Tn,Tm] using b3
  have k1:=b1.cell
  have f1:=b1.frozen
  have k2:=b2.cell
  have f2:=b2.frozen
  have k3:=b3.cell
  have f3:=b3.frozen
  have hW:=hW0
  go_wp2
  refine bodyPost_ret (by simp[results,Tryz.results20,go_sem,k1,f1,k2,f2,k3,f3,yb1,yb2,yb3]) rfl ⟨rfl,by exact Aa⟩
theorem Ld {s:Be} (h:Bn s=true):∀x,x∈s.segs->C1 x=true:=by
 unfold Bn at h
 simp only[Bool.and_eq_true] at h
 exact Kz h.2.1
theorem chk_opn {s:Be} (h:Bn s=true):∀x,x∈s.opn-> -2305844108725321728<=x.2/\x.2<=2305844108725321728:=by
 intro x hx
 unfold Bn at h
 simp only[Bool.and_eq_true] at h
 have:=List.all_eq_true.1 h.2.2.2.2.1 x hx
 unfold Gb btw at this
 simp only[Bool.and_eq_true,decide_eq_true_eq] at this
 omega
theorem Kr (s:Be) (a b:Int):D7 s a b= []↔Ej s a b= []:=by unfold D7;simp
theorem Mk {s:Be} {a b:Int} (h:Cz s a b≠0):Bd s a b= []:=by
 unfold Cz at h
 unfold Bd
 split
 ·rename_i hc
  rw[if_pos hc] at h
  split at h
  ·rename_i he;exact(Kr s a b).2 he
  ·exact absurd rfl h
 ·rfl
def Ln (l:List (Int×Int)):Prop:=(∀x,x∈l-> -2305844108725321728<=x.1/\x.1<=2305844108725321728/\0<=x.2/\x.2<=1099511627776)/\l.length<=100000
theorem S7 (s:Be) (h1:s.segs.length<=100) (h2:s.opn.length<=100) (a b:Int):Ln (Bd s a b):=by
 unfold Bd
 split
 ·rename_i hc
  have hp:=pcs_ok (Ld hc) (chk_opn hc) a b
  have hf:=Z8 h1 h2 a b
  unfold D7
  rw[<-Vn]
  refine⟨fun y hy=>by obtain⟨g,hg,hyg⟩:=List.mem_flatMap.1 hy;exact Sb (hp g hg) y hyg,?_⟩
  have:=Js pairs 256 (Mf s a b) fun y hy=>by unfold pairs;rw[List.length_map];exact(hp y hy).2.1
  omega
 ·exact⟨fun x hx=>(by cases hx),by simp⟩
theorem Jj {l:List (Int×Int)} (h:Ln l):(-(2305847407260205056*l.length)<=Ap (loL l)/\Ap (loL l)<=2305847407260205056*l.length)/\(-(2305847407260205056*l.length)<=Ap (hiL l)/\Ap (hiL l)<=2305847407260205056*l.length)/\l.length<=100000:=by
 have hls:=Gz (l:=loL l) (B:=2305847407260205056) (fun v hv=>by
  unfold loL at hv
  obtain⟨x,hx,rfl⟩:=List.mem_map.1 hv
  have:=h.1 x hx
  omega)
 have hhs:=Gz (l:=hiL l) (B:=2305847407260205056) (fun v hv=>by
  unfold hiL at hv
  obtain⟨x,hx,rfl⟩:=List.mem_map.1 hv
  have:=h.1 x hx
  omega)
 have el:(loL l).length=l.length:=by unfold loL;simp
 have eh:(hiL l).length=l.length:=by unfold hiL;simp
 rw[el] at hls
 rw[eh] at hhs
 exact⟨hls,hhs,h.2⟩
def sumV (l:List (Int×Int)):Array Value:=if inI (Ap (loL l))&&inI (Ap (hiL l)) then #[.int .i64 (Ap (loL l)),.int .i64 (Ap (hiL l))] else #[.int .i64 0,.int .i64 0]
def Xv (l:List (Int×Int)) (e:Int):Int:=if e=0 then (if inI (Ap (loL l))&&inI (Ap (hiL l)) then 0 else 5) else e
def Ph (l:List (Int×Int)):Array Value:= #[.int .i64 l.length,.int .i64 (Ap (loL l)/l.length),.int .i64 (Ap (loL l)%l.length),.int .i64 (Ap (hiL l)/l.length),.int .i64 (Ap (hiL l)%l.length)]
def minA (l:List (Int×Int)):Array Value:= #[.int .i64 (Bh (loL l)),.int .i64 (Bh (hiL l))]
def maxA (l:List (Int×Int)):Array Value:= #[.int .i64 (Bi (loL l)),.int .i64 (Bi (hiL l))]
theorem Ju (s:Be) (ps po:Option Addr) (cs co:Nat) (a b:Int) (w:World) (hin:Av w s ps po) (hb: -9223372036854775808<=b):
  Cb 51 #[.agg (Cg s ps cs po co),.int .i64 a,.int .i64 b] w (.tuple #[.agg (shA (Bd s a b)),.int .i64 (Cz s a b)]):=by
 unfold Cg shA
 refine whole_w _ _ _ _ _ _ _ _ _ _ _ a b _ _ _ _ _ _ _ _ _ _ w fun W hW k1 k2 k3=> ?_
 have hin':=hin.below hW
 have ck:=L9 s ps po cs co
 unfold Cg Ff at ck
 unfold Cz Bd
 cases hc:Bn s with
 |false=>
  rw[hc] at ck
  have key:=told_bad s.name s.eps s.floor s.last s.scale ps po s.segs.length cs s.opn.length co w.heap.size (w.heap.size+1) (w.heap.size+1+1) W (fun W' hW'=>ck W' (hin'.below hW'))
  have e:=Td
  unfold shA at e
  simp only[Bool.false_eq_true,if_false]
  rw[e]
  exact key
 |true=>
  rw[hc] at ck
  simp only[if_true]
  refine told_ok s.name s.eps s.floor s.last s.scale ps po s.segs.length cs s.opn.length co w.heap.size (w.heap.size+1) (w.heap.size+1+1) _ _ _ _ _ _ _ _ _ _ W (fun W' hW'=>ck W' (hin'.below hW')) fun W' hW'=> ?_
  have key:=callsIn_wide.1 (whole1_in s ps po cs co a b w.heap.size (w.heap.size+1) (w.heap.size+1+1) W' (hin'.below hW') (Ld hc) (chk_opn hc) hb (k1.below hW') (k2.below hW') (k3.below hW'))
  refine key.mono fun e w' h=>⟨?_,h.2⟩
  rw[h.1]
  have e1:(Mf s a b).flatMap pairs=D7 s a b:=Vn s a b
  rw[e1]
  unfold shA
  by_cases hn:Ej s a b= []
  ·rw[if_pos ((Kr s a b).2 hn),if_pos hn]
  ·rw[if_neg fun h=>hn ((Kr s a b).1 h),if_neg hn]
theorem c_anLeast (s:Be) (ps po:Option Addr) (cs co:Nat) (a b:Int) (w:World) (hin:Av w s ps po) (hb: -9223372036854775808<=b):
  Cb 17 #[.agg (Cg s ps cs po co),.int .i64 a,.int .i64 b] w (.tuple #[.agg (minA (Bd s a b)),.int .i64 (Cz s a b)]):=by
 have cw:=fun W (hW:Below w.heap.size w W)=>Ju s ps po cs co a b W (hin.below hW) hb
 unfold Cg shA at cw
 exact anLeast_w _ _ _ _ _ _ _ _ _ _ _ a b _ _ _ _ _ _ _ _ _ _ w cw
theorem c_anMost (s:Be) (ps po:Option Addr) (cs co:Nat) (a b:Int) (w:World) (hin:Av w s ps po) (hb: -9223372036854775808<=b):
  Cb 18 #[.agg (Cg s ps cs po co),.int .i64 a,.int .i64 b] w (.tuple #[.agg (maxA (Bd s a b)),.int .i64 (Cz s a b)]):=by
 have cw:=fun W (hW:Below w.heap.size w W)=>Ju s ps po cs co a b W (hin.below hW) hb
 unfold Cg shA at cw
 exact anMost_w _ _ _ _ _ _ _ _ _ _ _ a b _ _ _ _ _ _ _ _ _ _ w cw
theorem c_anCount (s:Be) (ps po:Option Addr) (cs co:Nat) (a b:Int) (w:World) (hin:Av w s ps po) (hb: -9223372036854775808<=b):
  Cb 13 #[.agg (Cg s ps cs po co),.int .i64 a,.int .i64 b] w (.tuple #[.int .i64 (Bd s a b).length,.int .i64 (if Cz s a b=9 then 0 else Cz s a b)]):=by
 have cw:=fun W (hW:Below w.heap.size w W)=>Ju s ps po cs co a b W (hin.below hW) hb
 unfold Cg shA at cw
 by_cases h9:Cz s a b=9
 ·have e:=Mk (s:=s) (a:=a) (b:=b) (by omega)
  have key:=anCount_9 _ _ _ _ _ _ _ _ _ _ _ a b _ _ _ _ _ _ _ _ _ _ w h9 cw
  rw[if_pos h9,e]
  exact key
 ·rw[if_neg h9]
  exact anCount_n _ _ _ _ _ _ _ _ _ _ _ a b _ _ _ _ _ _ _ _ _ _ w h9 cw
theorem c_anSum (s:Be) (ps po:Option Addr) (cs co:Nat) (a b:Int) (w:World) (hin:Av w s ps po) (hb: -9223372036854775808<=b):
  Cb 19 #[.agg (Cg s ps cs po co),.int .i64 a,.int .i64 b] w (.tuple #[.agg (sumV (Bd s a b)),.int .i64 (Xv (Bd s a b) (Cz s a b))]):=by
 have cw:=fun W (hW:Below w.heap.size w W)=>Ju s ps po cs co a b W (hin.below hW) hb
 unfold Cg shA at cw
 have hk:=Jj (S7 s hin.fewS hin.fewO a b)
 unfold Xv
 by_cases h0:Cz s a b=0
 ·rw[if_pos h0]
  have c2:=fun W=>Wt (Ap (loL (Bd s a b))) W (by unfold Bt;omega)
  have c3:=fun W=>Wt (Ap (hiL (Bd s a b))) W (by unfold Bt;omega)
  unfold B4 at c2 c3
  unfold sumV
  cases h1:inI (Ap (loL (Bd s a b))) with
  |false=>
   rw[h1] at c2
   exact anSum_2 _ _ _ _ _ _ _ _ _ _ _ a b _ _ _ _ _ _ _ _ _ _ _ _ _ _ w h0 (by decide) cw (fun W _=>c2 W) (fun W _=>c3 W)
  |true=>
   rw[h1] at c2
   cases h2:inI (Ap (hiL (Bd s a b))) with
   |false=>
    rw[h2] at c3
    exact anSum_3 _ _ _ _ _ _ _ _ _ _ _ a b _ _ _ _ _ _ _ _ _ _ _ _ 0 _ w h0 (by decide) cw (fun W _=>c2 W) (fun W _=>c3 W)
   |true=>
    rw[h2] at c3
    exact anSum_1 _ _ _ _ _ _ _ _ _ _ _ a b _ _ _ _ _ _ _ _ _ _ _ _ 0 0 w h0 cw (fun W _=>c2 W) (fun W _=>c3 W)
 ·rw[if_neg h0]
  have e:=Mk h0
  rw[e]
  exact anSum_0 _ _ _ _ _ _ _ _ _ _ _ a b _ _ _ _ _ _ _ _ _ _ 0 0 0 0 w h0 cw
theorem c_anMean (s:Be) (ps po:Option Addr) (cs co:Nat) (a b:Int) (w:World) (hin:Av w s ps po) (hb: -9223372036854775808<=b):
  Cb 20 #[.agg (Cg s ps cs po co),.int .i64 a,.int .i64 b] w (.tuple #[.agg (Ph (Bd s a b)),.int .i64 (Cz s a b)]):=by
 have cw:=fun W (hW:Below w.heap.size w W)=>Ju s ps po cs co a b W (hin.below hW) hb
 unfold Cg shA at cw
 have hk:=Jj (S7 s hin.fewS hin.fewO a b)
 by_cases h0:Cz s a b=0
 ·have hne:0<(Bd s a b).length:=by
   unfold Cz at h0
   unfold Bd
   split at h0
   ·rename_i hc
    rw[if_pos hc]
    split at h0
    ·cases h0
    ·rename_i ht
     exact List.length_pos_iff.2 fun h=>ht ((Kr s a b).1 h)
   ·cases h0
  rw[h0] at cw⊢
  obtain⟨l,hl⟩:∃l,Bd s a b=l:=⟨_,rfl⟩
  rw[hl] at cw hk hne⊢
  have c2:=fun W=>Wu (Ap (loL l)) l.length W (by unfold Bt;omega) (by omega) (by omega)
  have c3:=fun W=>Wu (Ap (hiL l)) l.length W (by unfold Bt;omega) (by omega) (by omega)
  have bd:∀z:Int,-(2305847407260205056*(l.length:Int))<=z->z<=2305847407260205056*(l.length:Int)-> -2305847407260205056<=z/(l.length:Int)/\z/(l.length:Int)<=2305847407260205056:=fun z h1 h2=>⟨Int.le_ediv_of_mul_le (by omega) (by omega),Int.ediv_le_of_le_mul (by omega) (by omega)⟩
  have b1:=bd _ hk.1.1 hk.1.2
  have b2:=bd _ hk.2.1.1 hk.2.1.2
  have c4:=fun W=>Wt (Ap (loL l)/l.length) W (by unfold Bt;omega)
  have c5:=fun W=>Wt (Ap (hiL l)/l.length) W (by unfold Bt;omega)
  rw[inI_in (by unfold I64;omega)] at c4 c5
  unfold B4 at c2 c3 c4 c5
  unfold Ph
  exact anMean_1 _ _ _ _ _ _ _ _ _ _ _ a b _ _ _ _ _ _ _ _ _ _ _ _ _ _ _ _ _ 0 0 w cw c2 c3 c4 c5
 ·have e:=Mk h0
  have key:=anMean_0 _ _ _ _ _ _ _ _ _ _ _ a b _ _ _ _ _ _ _ _ _ _ w h0 cw
  have e2:Ph []= #[.int .i64 0,.int .i64 0,.int .i64 0,.int .i64 0,.int .i64 0]:=by simp[Ph,loL,hiL,Ap]
  rw[e,e2]
  exact key
attribute [local simp] Oper.looksAt Op.operands Call.operands Aj Det Ao
theorem min_step {x0 x:Int} {l:List Int} {i:Nat} (h:l[i]? =some x):Bh (x0::l.take (i+1))=if x<Bh (x0::l.take i) then x else Bh (x0::l.take i):=by
 obtain⟨a1,a2⟩:=F3 (l:=x0::l.take i) (by simp)
 have e:l.take (i+1)=l.take i++ [x]:=by rw[List.take_add_one,h];rfl
 rw[e]
 refine Ns ?_ fun v hv=> ?_
 ·split
  ·simp
  ·rcases List.mem_cons.1 a1 with h|h
   ·exact List.mem_cons.2 (Or.inl h)
   ·exact List.mem_cons.2 (Or.inr (List.mem_append_left _ h))
 ·have hv':v∈x0::l.take i∨v=x:=by
   rcases List.mem_cons.1 hv with h|h
   ·exact Or.inl (List.mem_cons.2 (Or.inl h))
   ·rcases List.mem_append.1 h with h|h
    ·exact Or.inl (List.mem_cons.2 (Or.inr h))
    ·exact Or.inr (by simpa using h)
  rcases hv' with h|h
  ·have:=a2 v h;split<;>omega
  ·split<;>omega
theorem max_step {x0 x:Int} {l:List Int} {i:Nat} (h:l[i]? =some x):Bi (x0::l.take (i+1))=if Bi (x0::l.take i)<x then x else Bi (x0::l.take i):=by
 obtain⟨a1,a2⟩:=F4 (l:=x0::l.take i) (by simp)
 have e:l.take (i+1)=l.take i++ [x]:=by rw[List.take_add_one,h];rfl
 rw[e]
 refine Nt ?_ fun v hv=> ?_
 ·split
  ·simp
  ·rcases List.mem_cons.1 a1 with h|h
   ·exact List.mem_cons.2 (Or.inl h)
   ·exact List.mem_cons.2 (Or.inr (List.mem_append_left _ h))
 ·have hv':v∈x0::l.take i∨v=x:=by
   rcases List.mem_cons.1 hv with h|h
   ·exact Or.inl (List.mem_cons.2 (Or.inl h))
   ·rcases List.mem_append.1 h with h|h
    ·exact Or.inl (List.mem_cons.2 (Or.inr h))
    ·exact Or.inr (by simpa using h)
  rcases hv' with h|h
  ·have:=a2 v h;split<;>omega
  ·split<;>omega
theorem min_all {x0:Int} {l:List Int} (h:l[0]? =some x0):Bh (x0::l.take l.length)=Bh l:=by
 have hm:x0∈l:=List.mem_of_getElem? h
 obtain⟨a1,a2⟩:=F3 (l:=l) (fun e=>by rw[e] at h;cases h)
 rw[List.take_length]
 exact Ns (List.mem_cons.2 (Or.inr a1)) fun v hv=>by
  rcases List.mem_cons.1 hv with e|e
  ·rw[e];exact a2 _ hm
  ·exact a2 _ e
theorem max_all {x0:Int} {l:List Int} (h:l[0]? =some x0):Bi (x0::l.take l.length)=Bi l:=by
 have hm:x0∈l:=List.mem_of_getElem? h
 obtain⟨a1,a2⟩:=F4 (l:=l) (fun e=>by rw[e] at h;cases h)
 rw[List.take_length]
 exact Nt (List.mem_cons.2 (Or.inr a1)) fun v hv=>by
  rcases List.mem_cons.1 hv with e|e
  ·rw[e];exact a2 _ hm
  ·exact a2 _ e
def Ri (w:World) (p:Option Addr) (l:List Int):Prop:=Au w p l
theorem Ri.rex {L:List Nat} {w w':World} {p:Option Addr} {l:List Int} (h:Ri w p l) (hr:Rex L w w') (hL:L= []):Ri w' p l:=by subst hL;exact Au.below h hr.below
def enRel (w:World) (p:Option Addr) (l:List Int) (cap:Nat) (x0:Int) (a':Act) (W:World):Prop:=
 Below w.heap.size w W/\∃i:Nat,(∃u:Nat->Value,a'= {tmps:= #[.slice p l.length cap,u 1,u 2,u 3,.int .i64 (Bh (x0::l.take i)),.int .i64 (Bi (x0::l.take i)),.int .i64 (i:Int),u 7,u 8,u 9,u 10,u 11,u 12,u 13,u 14,u 15,u 16,u 17,u 18,u 19,u 20,u 21,u 22,u 23,u 24,u 25,u 26,u 27,u 28,u 29,u 30,u 31,u 32,u 33,u 34,u 35,u 36,u 37,u 38,u 39,u 40],defers:= []})/\i<=l.length
theorem Sx (p:Option Addr) (cap:Nat) (l:List Int) (x0:Int) (w:World) (hlen:l.length<=1000000) (h0:l[0]? =some x0) (h:Au w p l):
  Cb 64 #[.slice p l.length cap] w (.tuple #[.int .i64 (Bh l),.int .i64 (Bi l)]):=by
 have hpos:0<l.length:=(List.getElem?_eq_some_iff.1 h0).1
 go_enter Tryz.func64,Tryz.ntmps64
 obtain⟨b,o,e0,_⟩:=h.at' 0 x0 h0
 have hsl:(Value.slice p l.length cap)= .slice (some ⟨b,o,none⟩) l.length cap:=by rw[e0]
 subst e0
 go_upto_region 1 with(fail)
 refine Ad w (Rc (fun W'=>Ri W' (some ⟨b,o,none⟩) l)<|Bz) ?_ (hI:=by exact Aa) (hR:=(Rc.mk (by exact Au.below h Aa)<|trivial))
 rintro W1 hW z2 hL
 obtain⟨b1,-⟩:=id hL
 refine Br 8 41 hW hL ?_
 iterate 8
  apply Ag (hg:=rfl) (hal:=rfl)
  ·intro a W' hC hE
   obtain⟨_,k1,-⟩:=hC
   obtain⟨b',o',e9,q0⟩:=Au.at' k1 0 x0 h0;obtain⟨rfl,rfl⟩:b=b'/\o=o':=(by injection e9 with e9;injection e9 with e1 e2;exact⟨e1,e2⟩);rw[Nat.add_zero] at q0
   first
    |(simp at hE;simp[go_sem,Act.eval,iw,hE,k1,q0,hpos];try rfl)
    |(clear hE;simp[go_sem,Act.eval,iw,k1,q0,hpos];try rfl)
 clear hW hL b1
 rintro W3 hW z4 hL
 simp only[ndR]
 intros
 simp only[ndS]
 refine wpList_nil ?_
 obtain⟨b1,-⟩:=hL
 go_wp2
 refine wp_loop (enRel w (some ⟨b,o,none⟩) l cap x0) (fun a' _=>l.length-(Ak (a'.tmps.getD 6 undef)).toNat) ?_ ?_
 ·exact⟨Aa,0,Ac (by simp[Bh,Bi]<;>rfl),Nat.zero_le _⟩
 rintro a' W ⟨hW0,i,⟨u,rfl⟩,hi'⟩
 have hz:=hW0.size
 obtain⟨m,hm⟩:∃m,Bh (x0::l.take i)=m:=⟨_,rfl⟩
 obtain⟨M,hM⟩:∃M,Bi (x0::l.take i)=M:=⟨_,rfl⟩
 rw[hm,hM]
 rcases Nat.lt_or_ge i l.length with hlt|hge
 ·obtain⟨x,hx⟩:∃r,l[i]? =some r:=⟨l[i]'(by omega),List.getElem?_eq_getElem (by omega)⟩
  obtain⟨b',o',e9,q0⟩:=(h.below hW0).at' i x hx
  obtain⟨rfl,rfl⟩:b=b'/\o=o':=(by injection e9 with e9;injection e9 with e1 e2;exact⟨e1,e2⟩)
  have e1:=min_step (x0:=x0) hx
  have e2:=max_step (x0:=x0) hx
  rw[hm] at e1
  rw[hM] at e2
  clear hm hM hx e9 h0
  by_cases c1:x<m
  ·rw[if_pos c1] at e1
   replace e1:=Hd e1
   by_cases c2:M<x
   ·rw[if_pos c2] at e2
    replace e2:=Hd e2
    go_wp2
    refine⟨?_,by simp[Ak];omega⟩
    refine⟨hW0,i+1,?_,by omega⟩
    rw[e1.out,e2.out]
    exact Ac rfl
   ·rw[if_neg c2] at e2
    replace e2:=Hd e2
    go_wp2
    refine⟨?_,by simp[Ak];omega⟩
    refine⟨hW0,i+1,?_,by omega⟩
    rw[e1.out,e2.out]
    exact Ac rfl
  ·rw[if_neg c1] at e1
   replace e1:=Hd e1
   by_cases c2:M<x
   ·rw[if_pos c2] at e2
    replace e2:=Hd e2
    go_wp2
    refine⟨?_,by simp[Ak];omega⟩
    refine⟨hW0,i+1,?_,by omega⟩
    rw[e1.out,e2.out]
    exact Ac rfl
   ·rw[if_neg c2] at e2
    replace e2:=Hd e2
    go_wp2
    refine⟨?_,by simp[Ak];omega⟩
    refine⟨hW0,i+1,?_,by omega⟩
    rw[e1.out,e2.out]
    exact Ac rfl
 ·obtain rfl:i=l.length:=by omega
  rw[min_all h0] at hm
  rw[max_all h0] at hM
  subst hm hM
  clear h0
  go_wp2
  refine bodyPost_ret (v:= .tuple #[.int .i64 (Bh l),.int .i64 (Bi l)]) (by simp[results,Tryz.results64,go_sem]) rfl ⟨rfl,hW0⟩
def toRel (w:World) (gs:Nat) (p:Option Addr) (cap:Nat) (l:List Int) (a':Act) (W:World):Prop:=
 Below w.heap.size w W/\∃(i:Nat) (S:Int) (ps:Option Addr) (ls cs:Nat),(∃u:Nat->Value,a'= {tmps:= #[.slice p l.length cap,u 1,.pointer (some ⟨w.heap.size,0,none⟩),.pointer (some ⟨gs,0,none⟩),.int .i64 (i:Int),u 5,u 6,u 7,u 8,u 9,u 10,u 11,u 12,u 13,u 14,u 15,u 16,u 17,u 18,u 19],defers:= []})/\S=Ap (l.take i)/\i<=l.length/\Blk W w.heap.size #[.bool false,.slice none 0 0] 132/\Blk W gs #[.bool (decide (S<0)),.slice ps ls cs] 132/\Ay W (.slice ps ls cs) S.natAbs
theorem Gg (p:Option Addr) (cap:Nat) (l:List Int) (w:World) (hlen:l.length<=100000) (hv:∀v,v∈l-> -9223372036854775808<=v/\v<=9223372036854775807) (hl:Au w p l):
  Calls Tryz.prog 66 #[.slice p l.length cap] w fun e w'=>∃v,e= .returned v/\Bu w' v (Ap l)/\Below w.heap.size w w':=by
 go_enter Tryz.func66,Tryz.ntmps66
 go_wp2_with fail
 refine(Ew 0 _ (by omega) (by omega)).mono ?_
 rintro e w1 ⟨v0,rfl,hn0,hb1⟩
 have z2:=hb1.size
 try simp at z2
 refine Ae w w1 (Bc w.heap.size #[.bool false,.slice none 0 0] 132<|Bz) ?_
 rintro hW z3 ⟨⟨b1,yb1,k1,f1⟩,-⟩
 obtain⟨ps,ls,cs,rfl,hq0⟩:=Ca hn0
 clear hn0
 replace hq0:=Hd hq0
 rw[show decide ((0:Int)<0)=false by rfl]
 go_wp2
 refine wp_loop (toRel w w1.heap.size p cap l) (fun a' _=>l.length-(Ak (a'.tmps.getD 4 undef)).toNat) ?_ ?_
 ·unfold toRel
  exact⟨Aa,0,0,ps,ls,cs,Ac rfl,rfl,by omega,by exact Ab,by exact Ab,hq0.out.below Aa⟩
 unfold toRel
 rintro a' W ⟨hW0,i,S,ps,ls,cs,⟨u,rfl⟩,hS0,hi',b1,b2,hq⟩
 have hz:=hW0.size
 have zb1:=b1.lt
 have zb2:=b2.lt
 have hbd:=Gz (l:=l.take i) (B:=9223372036854775808) (fun v hv'=>by have:=hv v (List.mem_of_mem_take hv');omega)
 rw[<-hS0,List.length_take] at hbd
 rcases Nat.lt_or_ge i l.length with hlt|hge
 ·obtain⟨x,hx⟩:∃r,l[i]? =some r:=⟨l[i]'(by omega),List.getElem?_eq_getElem (by omega)⟩
  have bx:=hv x (List.mem_of_getElem? hx)
  obtain⟨b,o,rfl,_⟩:=hl.at' i x hx
  have hs9:S.natAbs<2^900:=Cp 128 900 (show S.natAbs<2^128 by simp;omega) (by omega)
  have hv9:x.natAbs<2^900:=Cp 128 900 (show x.natAbs<2^128 by simp;omega) (by omega)
  have hS1:=Hd (show S+x=Ap (l.take (i+1)) by rw[List.take_add_one,hx,Em,<-hS0];simp[Ap])
  replace hx:=Hd hx
  clear hS0 hbd hv
  have b3:Ri W (some ⟨b,o,none⟩) l:=hl.below hW0
  have b4:=hq
  have hW:=hW0
  clear hq hW0
  have k1:=b1.cell
  have f1:=b1.frozen
  have k2:=b2.cell
  have f2:=b2.frozen
  go_upto_region 5 with(fail)
  clear k1 f1 k2 f2
  refine Ad w (Bc w.heap.size #[.bool false,.slice none 0 0] 132<|Bc w1.heap.size #[.bool (decide (S<0)),.slice ps ls cs] 132<|Rc (fun W'=>Ri W' (some ⟨b,o,none⟩) l)<|Rc (fun W'=>Ay W' (.slice ps ls cs) S.natAbs)<|Bz) ?_ (hI:=by exact Aa) (hR:=(Bc.mk (by exact Ab)<|Bc.mk (by exact Ab)<|Rc.mk (by exact Au.below hl (by exact Aa))<|Rc.mk (by exact b4)<|trivial))
  clear b1 b2 b3 b4 hW
  rintro W31 hW z32 ⟨⟨b1,yb1,k1,f1⟩,⟨b2,yb2,k2,f2⟩,b3,b4,-⟩
  refine An 7 20 [] (fun W'=>Rex [] W31 W'/\Blk W' w.heap.size #[.bool false,.slice none 0 0] 132/\Blk W' w1.heap.size #[.bool (decide (S<0)),.slice ps ls cs] 132/\Ri W' (some ⟨b,o,none⟩) l/\Ay W' (.slice ps ls cs) S.natAbs) Cd (by kernel_rfl) rfl ⟨(Rex.refl _ _).drew,b1,b2,b3.drew,b4.drew⟩ (fun w w' ⟨h0,h1,h2,h3,h4⟩ hr=>⟨h0.trans hr,h1.rex hr (by simp<;>omega),h2.rex hr (by simp<;>omega),h3.rex hr (by simp<;>omega),h4.rex hr (by simp<;>omega)⟩) (fun c a d v w h=>by cases d<;>exact h) ?_
  iterate 5
   apply Ag (hg:=rfl) (hal:=rfl)
   ·intro a W' hC hE
    obtain⟨_,k1,k2,k3,k4⟩:=hC
    have k2:=k2.cell
    obtain⟨b',o',e9,q1⟩:=Au.at' k3 i x hx.out;obtain⟨rfl,rfl⟩:b=b'/\o=o':=(by injection e9 with e9;injection e9 with e1 e2;exact⟨e1,e2⟩)
    first
     |(simp at hE;simp[go_sem,Act.eval,iw,hE,k1,k2,k3,k4,q1,hlt];try rfl)
     |(clear hE;simp[go_sem,Act.eval,iw,k1,k2,k3,k4,q1,hlt];try rfl)
  apply A7 (NI x) (hg:=rfl) (hal:=rfl)
  ·exact NI.closed _
  ·intro a W' hC hE
   simp at hE
   refine⟨_,_,?_,(Ew x W' (by omega) (by omega)).mono ?_⟩
   ·simp[go_sem,Act.eval,hE]
    try rfl
   ·rintro e w' ⟨v,rfl,hB,hR⟩
    exact⟨_,rfl,hR,hB⟩
  apply A7 (NI (S+x)) (hg:=rfl) (hal:=rfl)
  ·exact NI.closed _
  ·intro a W' hC hE
   simp at hE
   refine⟨_,_,?_,(Ra (.agg #[.bool (decide (S<0)),.slice ps ls cs]) _ S x W' ⟨_,rfl,hC.2.2.2.2⟩ hE.2 hs9 hv9).mono ?_⟩
   ·simp[go_sem,Act.eval,hE.1]
    try rfl
   ·rintro e w' ⟨v,rfl,hB,hR⟩
    exact⟨_,rfl,hR,hB⟩
  rintro W50 ⟨hR,d1,d2,d3,d4⟩
  simp only[Ar,Det,forall_eq]
  intros
  repeat (rename Ao _ _ _ _=>hgd;clear hgd)
  simp only[nS]
  clear b1 b2 b3 b4
  have b1:=d1
  have b2:=d2
  clear d1 d2 d3 d4
  replace hW:=hW.trans (hR.of_priv hW.size)
  clear hR
  rename NI (S+x) _ _=>hi1
  obtain⟨p1,l2,k9,rfl,hq1⟩:=Ca hi1
  clear hi1
  replace hq1:=Hd hq1
  clear k1 f1 k2 f2
  have k1:=b1.cell
  have f1:=b1.frozen
  have k2:=b2.cell
  have f2:=b2.frozen
  have z91:=hW.size
  have z92:=b1.lt
  have z93:=b2.lt
  obtain⟨B,hB⟩:∃B,B=(decide (S+x<0)):=⟨_,rfl⟩
  rw[<-hB]
  replace hB:=Hd hB
  have hS:=Hd (hq1.out.store b2 (.bool B) (.slice p1 l2 k9))
  go_wp2
  rw[show (i:Int)+1=((i+1:Nat):Int) by omega]
  refine⟨?_,by simp[Ak];omega⟩
  exact⟨by exact Aa,i+1,S+x,p1,l2,k9,Ac rfl,hS1.out,by omega,by exact Ab,by rw[<-hB.out];exact Ab,hS.out⟩
 ·obtain rfl:i=l.length:=by omega
  rw[List.take_length] at hS0
  have hSl:=Hd hS0
  clear hS0 hbd
  have hW:=hW0
  clear hW0
  have k1:=b1.cell
  have f1:=b1.frozen
  have k2:=b2.cell
  have f2:=b2.frozen
  have y_1:=b1.lt
  have y_2:=b2.lt
  obtain⟨B,hB⟩:∃B,B=(decide (S<0)):=⟨_,rfl⟩
  rw[<-hB] at b2 k2
  replace hB:=Hd hB
  have hS:=Hd (hq.store b1 (.bool B) (.slice ps ls cs))
  go_wp2
  refine bodyPost_ret (v:= .agg #[.bool B,.slice ps ls cs]) (by simp[results,Tryz.results66,go_sem,k1,f1,k2,f2,y_1,y_2]) rfl ⟨_,rfl,⟨.slice ps ls cs,by rw[hB.out,hSl.out],by rw[<-hSl.out];exact hS.out⟩,by exact Aa⟩
end Go.Proofs.YtidfcoooccblaaaGreat
namespace Go.Proofs.YtidfcoooccblaaaGreat
open Go.RowKit
section
variable {P:Program} {w:World}
theorem Pt (base:Nat) (t ty e:TypeId) (i:TypeInfo) (z:Value) (size bytes:Nat) (ht:P.underlying t=some (.slice e)) (hi:P.info? e=some i) (hz:i.zero=some z)
  (hsize:i.size=size) (hby:i.bytes=bytes) (hzs:z.cells.size=size) (hsz:0<size)
  (v:Value) (n:Nat) (xs:List Value) (hown:w.ownsRow base e size v n xs)
  (a:Addr) (m c:Nat) (news:List Value) (hl:news.length=m*size) (hnews:∀j u,news[j]? =some u->w.cell? (a.add j)=some u) (h1:∀u∈news,u.oneCell'=true)
  (h63:n+m<=maxLen) (hbytes:(n+m)*bytes<=140737488355328) (hbase:base<=w.heap.size):
  ∃v' w',(Builtin.append_ #[t,t] ty #[v,.slice (some a) m c]).run P w= .ok v' w'/\w'.ownsRow base e size v' (n+m) (xs++news)/\w.grownBy w' v.ownBlock/\
   (v'= .slice none 0 0↔v= .slice none 0 0/\m=0)/\(v'.ownBlock=v.ownBlock∨v'.ownBlock=some w.heap.size):=by
 obtain⟨v',w',hr,h2,h3,h4⟩:=run_append_own (P:=P) w base t ty e i z size bytes ht hi hz hsize hby hzs hsz v n xs hown a m c news hl hnews h1 h63 hbytes hbase
 refine⟨v',w',hr,h2,h3,h4,?_⟩
 subst hsize
 subst hby
 have hsmall:n+m<=9223372036854775807:=by simp only[maxLen] at h63;omega
 rcases hown.2 with⟨rfl,rfl⟩|⟨g,cap,cur,rfl,hbg,hg,hnc,hcm,hcs,htake⟩
 ·by_cases hm:m=0
  ·left
   rw[h4.2 ⟨rfl,hm⟩]
  ·have hr2:=run_append_nil (P:=P) w t ty e i z ht hi hz a m c news hl hnews (by omega) (by omega) (by have hb:=hbytes;simp only[Nat.zero_add] at hb;omega)
   rw[hr2] at hr
   injection hr with hr _
   subst hr
   right;rfl
 ·by_cases hroom:n+m<=cap
  ·have hfit:n*i.size+news.length<=cur.size:=by rw[hl,hcs,<-Nat.add_mul];exact Nat.mul_le_mul_right _ hroom
   have hr2:=run_append_room (P:=P) w t ty e i ht hi g n cap cur hg a m c news hl hnews h1 hroom hfit
   rw[hr2] at hr
   injection hr with hr _
   subst hr
   left;rfl
  ·have holds:∀j u,xs[j]? =some u->w.cell? ((⟨g,0,none⟩:Addr).add j)=some u:=hown.cells (g:=g) rfl
   have hr2:=run_append_grow (P:=P) w t ty e i z ht hi hz ⟨g,0,none⟩ n cap xs hown.1 holds a m c news hl hnews (by omega) (by omega) (growslice_fits (by omega) hbytes)
   rw[hr2] at hr
   injection hr with hr _
   subst hr
   right;rfl
theorem C4 {ops:Array Oper} {rest:List Oper} {o:Oper} {a:Act} {Q:Exit->Act->World->Prop} (hgd:o.guard=none) (s x:Operand) (t:TypeId)
  (ho:o.op= .call {callee:= .builtin .append,args:= #[s,x],argTypes:= #[t,t]})
  (base:Nat) (e:TypeId) (i:TypeInfo) (z:Value) (size bytes:Nat) (ht:P.underlying t=some (.slice e)) (hi:P.info? e=some i) (hz:i.zero=some z)
  (hsize:i.size=size) (hby:i.bytes=bytes) (hzs:z.cells.size=size) (hsz:0<size)
  (v:Value) (n:Nat) (xs:List Value) (hs:a.eval s=v) (hown:w.ownsRow base e size v n xs)
  (ad:Addr) (m c:Nat) (news:List Value) (hx:a.eval x= .slice (some ad) m c) (hl:news.length=m*size) (hnews:∀j u,news[j]? =some u->w.cell? (ad.add j)=some u) (h1:∀u∈news,u.oneCell'=true)
  (h63:n+m<=maxLen) (hbytes:(n+m)*bytes<=140737488355328) (hbase:base<=w.heap.size)
  (h:∀v' w',w'.ownsRow base e size v' (n+m) (xs++news)->w.grownBy w' v.ownBlock->(v'.ownBlock=v.ownBlock∨v'.ownBlock=some w.heap.size)->wpList P ops Q rest (a.put o.dst v') w'):wpList P ops Q (o::rest) a w:=by
 refine wpList_plain hgd fun K hK=> ?_
 obtain⟨v',w',hr,h2,h3,_,h4⟩:=Pt (P:=P) (w:=w) base t o.type e i z size bytes ht hi hz hsize hby hzs hsz v n xs hown ad m c news hl hnews h1 h63 hbytes hbase
 unfold Oper.wp
 simp[execOp,ho,resolve,invoke,builtin,hs,hx,hr,Result.andThen]
 exact hK _ _ (h v' w' h2 h3 h4)
end
attribute [local simp] Oper.looksAt Op.operands Call.operands Aj Det Ao
def Xk (B:Nat) (d:Int):Bo:=fun v w=>∃g,v= .slice (some ⟨g,0,none⟩) 1 1/\B<=g/\Blk w g #[d] 2
theorem Xk.closed (B:Nat) (d:Int):Bj [] (Xk B d):=fun _ _ _ hr ⟨g,e1,h1,h⟩=>⟨g,e1,h1,h.rex hr (by simp)⟩
def Kf (v1 v2:Value):Prop:=∀g,v1.ownBlock=some g->v2.ownBlock=some g->False
theorem Kf.symm {v1 v2:Value} (h:Kf v1 v2):Kf v2 v1:=fun g a b=>h g b a
theorem S3 {v1 v2:Value} (h:Kf v1 v2):v2.ownBlock=none∨v2.ownBlock≠v1.ownBlock:=by
 cases e:v2.ownBlock with
 |none=>exact Or.inl rfl
 |some g=>exact Or.inr fun e2=>h g e2.symm e
theorem Pr {v1 v1' v2:Value} {n:Nat} (h:Kf v1 v2) (hst:v1'.ownBlock=v1.ownBlock∨v1'.ownBlock=some n) (hlt:∀g,v2.ownBlock=some g->g<n):Kf v1' v2:=fun g a b=>by
 rcases hst with e|e
 ·rw[e] at a;exact h g a b
 ·rw[e] at a;injection a with a;have:=hlt g b;omega
theorem Fx {B:Nat} {w0 w w':World} {r:Option Nat} (h:Below B w0 w) (hB:B<=w.heap.size) (hg:w.grownBy w' r) (hr:∀g,r=some g->B<=g):Below B w0 w':=
 h.trans ⟨hg.os,hg.tape,hg.output,hg.size,fun k hk=>hg.block k (by omega) fun e=>by have:=hr k e.symm;omega⟩
theorem Qq {W:World} {g:Nat} {d:Int} (h:Blk W g #[d] 2) {j:Nat} {u:Value} (hu: [Value.int .i64 d][j]? =some u):W.cell? ((⟨g,0,none⟩:Addr).add j)=some u:=by
 match j,hu with
 |0,hu=>
  obtain rfl:Value.int .i64 d=u:=by simpa using hu
  exact h.cell 0
 |j+1,hu=>simp at hu
def loB (x:Ah):Int:=x.s-x.c
def hiB (x:Ah):Int:=x.s+x.c
def boRel (w:World) (p:Option Addr) (cap:Nat) (l:List Ah) (a':Act) (W:World):Prop:=
 Below w.heap.size w W/\∃(i:Nat) (v1 v2:Value),(∃u:Nat->Value,a'= {tmps:= #[.slice p l.length cap,u 1,.slice none 0 0,.slice none 0 0,v1,v2,.int .i64 (i:Int),u 7,u 8,u 9,u 10,u 11,u 12,u 13,u 14,u 15,u 16,u 17,u 18,u 19,u 20,u 21,u 22,u 23,u 24,u 25,u 26,u 27,u 28,u 29,u 30,u 31,u 32,u 33,u 34,u 35,u 36,u 37,u 38,u 39,u 40,u 41,u 42],defers:= []})/\i<=l.length/\
  Bp W w.heap.size 2 1 v1 i (((l.take i).map loB).map (Value.int .i64))/\Bp W w.heap.size 2 1 v2 i (((l.take i).map hiB).map (Value.int .i64))/\Kf v1 v2
theorem Wo (p:Option Addr) (cap:Nat) (l:List Ah) (w:World) (hlen:l.length<=100000) (hv:∀x,x∈l-> -4611686018427387904<=x.s/\x.s<=4611686018427387903/\0<=x.c/\x.c<=4611686018427387903) (h:Ai w p l):
  Calls Tryz.prog 63 #[.slice p l.length cap] w fun e w'=>∃v1 v2,e= .returned (.tuple #[v1,v2])/\Bp w' w.heap.size 2 1 v1 l.length ((l.map loB).map (Value.int .i64))/\Bp w' w.heap.size 2 1 v2 l.length ((l.map hiB).map (Value.int .i64))/\Below w.heap.size w w':=by
 obtain⟨i0,hi,hz0,hz1,hz2⟩:=info_parts Tryz.infoI64
 go_enter Tryz.func63,Tryz.ntmps63
 go_wp2
 refine wp_loop (boRel w p cap l) (fun a' _=>l.length-(Ak (a'.tmps.getD 6 undef)).toNat) ?_ ?_
 ·exact⟨Below.refl _ _,0,_,_,Ac rfl,Nat.zero_le _,Bp.nil _ _ _ _,Bp.nil _ _ _ _,fun g h=>by simp[Value.ownBlock] at h⟩
 ·rintro a' W ⟨hW0,i,v1,v2,⟨u,rfl⟩,hi',hown1,hown2,hap⟩
  have hz:=hW0.size
  rcases Nat.lt_or_ge i l.length with hlt|hge
  ·obtain⟨x,hx⟩:∃r,l[i]? =some r:=⟨l[i]'(by omega),List.getElem?_eq_getElem (by omega)⟩
   have bx:=hv x (List.mem_of_getElem? hx)
   obtain⟨b,o,rfl,_⟩:=h.at' i x hx
   have E1:=Hd (show wrap64 (x.s-x.c)=x.s-x.c by rw[Al];omega)
   have E2:=Hd (show wrap64 (x.s+x.c)=x.s+x.c by rw[Al];omega)
   replace hx:=Hd hx
   go_upto_region 5 with(fail)
   refine Ad W (Rc (fun W'=>Ai W' (some ⟨b,o,none⟩) l)<|Bz) ?_ (hI:=by exact Aa) (hR:=(Rc.mk (by exact(h.below hW0))<|trivial))
   rintro W51 hW z52 hL
   obtain⟨b1,-⟩:=id hL
   refine Br 13 43 hW hL ?_
   iterate 12
    apply Ag (hg:=rfl) (hal:=rfl)
    ·intro a W' hC hE
     obtain⟨_,k1,-⟩:=hC
     obtain⟨b',o',e9,_,q1,q2⟩:=k1.at' i x hx.out;obtain⟨rfl,rfl⟩:b=b'/\o=o':=(by injection e9 with e9;injection e9 with e1 e2;exact⟨e1,e2⟩)
     first
      |(simp at hE;simp[go_sem,Act.eval,iw,hE,k1,q1,q2,hlt,E1.out,E2.out];try rfl)
      |(clear hE;simp[go_sem,Act.eval,iw,k1,q1,q2,hlt,E1.out,E2.out];try rfl)
   apply Ox (Xk W51.heap.size (x.s-x.c)) (hg:=rfl) (hal:=rfl)
   ·exact Xk.closed _ _
   ·intro a' W' hC hE
    simp at hE
    refine⟨.slice (some ⟨W'.heap.size,0,none⟩) 1 1,W'.alloc (.cells #[.int .i64 (x.s-x.c)] 2),?_,(Below.refl _ _).alloc (Nat.le_refl _) _,W'.heap.size,rfl,hC.1.size,Blk.new' rfl⟩
    simp[go_sem,execOp,Act.eval,hE]
    try rfl
    done
   clear hW hL b1
   rintro W53 hW z54 hL
   simp only[ndR]
   intros
   simp only[ndS]
   obtain⟨b1,-⟩:=hL
   rename Xk _ _ _ _=>ho
   obtain⟨g1,rfl,hg1,bg⟩:=ho
   have y1:=bg.lt
   have hOk:=hown1.below hW
   have hOo:=hown2.below hW
   clear hown1 hown2 b1
   have zz:=hW.size
   have hlo:=fun g e=>hOk.own.lt g e
   have hloo:=fun g e=>hOo.own.lt g e
   go_wp2_with (at_builtin;refine C4 rfl (.tmp 13) (.tmp 25) 96 rfl w.heap.size 2 i0 (.int .i64 0) 1 8 (by kernel_rfl) hi hz0 hz1 hz2 rfl (by decide) _ _ _ rfl hOk.own ⟨g1,0,none⟩ 1 1 [.int .i64 (x.s-x.c)] rfl rfl (fun j u hu=>Qq bg hu) (by simp[Value.oneCell']) (by simp[maxLen];omega) (by omega) (by omega) ?_)
   intro v1' w19 hown1 hgr hst
   have hB1:Below w.heap.size w w19:=Fx (hW0.trans (hW.mono (by omega))) (by omega) hgr (fun g e=>(hlo g e).1)
   replace hown1:Bp w19 w.heap.size 2 1 v1' (i+1) _:=⟨hown1⟩
   have hown2:Bp w19 w.heap.size 2 1 v2 i _:=⟨hOo.own.kept hgr (S3 (by first|exact hap|exact hap.symm))⟩
   replace hap:Kf v1' v2:=by
    exact Pr hap hst (fun g e=>(hloo g e).2)
   clear hst hgr hOk hOo hlo hloo hW bg
   have zz1:=hB1.size
   go_upto_region 6 with(fail)
   refine Ad w19 (Rc (fun W'=>Ai W' (some ⟨b,o,none⟩) l)<|Bz) ?_ (hI:=by exact Aa) (hR:=(Rc.mk (by exact(h.below hB1))<|trivial))
   rintro W71 hW z72 hL
   obtain⟨b1,-⟩:=id hL
   refine Br 13 43 hW hL ?_
   iterate 12
    apply Ag (hg:=rfl) (hal:=rfl)
    ·intro a W' hC hE
     obtain⟨_,k1,-⟩:=hC
     obtain⟨b',o',e9,_,q1,q2⟩:=k1.at' i x hx.out;obtain⟨rfl,rfl⟩:b=b'/\o=o':=(by injection e9 with e9;injection e9 with e1 e2;exact⟨e1,e2⟩)
     first
      |(simp at hE;simp[go_sem,Act.eval,iw,hE,k1,q1,q2,hlt,E1.out,E2.out];try rfl)
      |(clear hE;simp[go_sem,Act.eval,iw,k1,q1,q2,hlt,E1.out,E2.out];try rfl)
   apply Ox (Xk W71.heap.size (x.s+x.c)) (hg:=rfl) (hal:=rfl)
   ·exact Xk.closed _ _
   ·intro a' W' hC hE
    simp at hE
    refine⟨.slice (some ⟨W'.heap.size,0,none⟩) 1 1,W'.alloc (.cells #[.int .i64 (x.s+x.c)] 2),?_,(Below.refl _ _).alloc (Nat.le_refl _) _,W'.heap.size,rfl,hC.1.size,Blk.new' rfl⟩
    simp[go_sem,execOp,Act.eval,hE]
    try rfl
    done
   clear hW hL b1
   rintro W73 hW z74 hL
   simp only[ndR]
   intros
   simp only[ndS]
   obtain⟨b1,-⟩:=hL
   rename Xk _ _ _ _=>ho
   obtain⟨g1,rfl,hg1,bg⟩:=ho
   have y1:=bg.lt
   have hOk:=hown2.below hW
   have hOo:=hown1.below hW
   clear hown2 hown1 b1
   have zz:=hW.size
   have hlo:=fun g e=>hOk.own.lt g e
   have hloo:=fun g e=>hOo.own.lt g e
   go_wp2_with (at_builtin;refine C4 rfl (.tmp 27) (.tmp 39) 96 rfl w.heap.size 2 i0 (.int .i64 0) 1 8 (by kernel_rfl) hi hz0 hz1 hz2 rfl (by decide) _ _ _ rfl hOk.own ⟨g1,0,none⟩ 1 1 [.int .i64 (x.s+x.c)] rfl rfl (fun j u hu=>Qq bg hu) (by simp[Value.oneCell']) (by simp[maxLen];omega) (by omega) (by omega) ?_)
   intro v2' w29 hown2 hgr hst
   have hB2:Below w.heap.size w w29:=Fx (hB1.trans (hW.mono (by omega))) (by omega) hgr (fun g e=>(hlo g e).1)
   replace hown2:Bp w29 w.heap.size 2 1 v2' (i+1) _:=⟨hown2⟩
   have hown1:Bp w29 w.heap.size 2 1 v1' (i+1) _:=⟨hOo.own.kept hgr (S3 (by first|exact hap|exact hap.symm))⟩
   replace hap:Kf v1' v2':=by
    exact(Pr hap.symm hst (fun g e=>(hloo g e).2)).symm
   clear hst hgr hOk hOo hlo hloo hW bg
   have zz2:=hB2.size
   have r1:((l.take (i+1)).map loB).map (Value.int .i64)=List.take i (List.map (Value.int .i64∘loB) l)++ [Value.int .i64 (x.s-x.c)]:=by rw[List.take_add_one,hx.out];simp[loB,List.map_take]
   have r2:((l.take (i+1)).map hiB).map (Value.int .i64)=List.take i (List.map (Value.int .i64∘hiB) l)++ [Value.int .i64 (x.s+x.c)]:=by rw[List.take_add_one,hx.out];simp[hiB,List.map_take]
   replace r1:=Hd r1
   replace r2:=Hd r2
   go_wp2
   rw[show (i:Int)+1=((i+1:Nat):Int) by omega]
   refine⟨?_,by simp[Ak];omega⟩
   exact⟨hB2,i+1,v1',v2',Ac rfl,by omega,by rw[r1.out];exact hown1,by rw[r2.out];exact hown2,hap⟩
  ·obtain rfl:i=l.length:=by omega
   rw[List.take_length] at hown1 hown2
   go_wp2
   refine bodyPost_ret (v:= .tuple #[v1,v2]) (by simp[results,Tryz.results63,go_sem]) rfl ⟨_,_,rfl,hown1,hown2,hW0⟩
end Go.Proofs.YtidfcoooccblaaaGreat
