/- Parts of the proof that follows. No condition. -/
import Derived.Test.YtdeghcgakkhbmaaGreatSd10
set_option maxRecDepth 100000
set_option maxHeartbeats 8000000
set_option linter.unusedSimpArgs false
set_option linter.unusedVariables false
namespace Go.Proofs.YtdeghcgakkhbmaaGreat
open Go.RowKit
attribute [local simp] Oper.looksAt Op.operands Call.operands Af Det Am
theorem Bj.ptsB {w:World} {B n:Nat} {t:TypeId} {v:Value} {l:List (Int×Int)} (h:Bj w B t 2 v n (Ax l)) (hn:0<n):∃g cp cur,v= .slice (some ⟨g,0,none⟩) n cp/\Blk w g cur t/\cur.toList.take (n*2)=Ax l:=by
 rcases h.own.2 with⟨_,h0⟩|⟨g,cap,cur,rfl,_,hb,_,_,_,ht⟩
 ·omega
 ·exact⟨g,cap,cur,rfl,hb,ht⟩
theorem Blk.grown0 {W w1:World} {B g:Nat} {cs:Array Value} {t e:TypeId} {s n:Nat} {v:Value} {xs:List Value} (h:Blk W g cs t) (hown:W.ownsRow B e s v n xs) (ht:t≠e) (hgr:W.grownBy w1 v.ownBlock):Blk w1 g cs t:=by
 have hlt:=h.lt
 have h':W.heap[g]? =some (.cells cs t (0,0)):=h
 refine(hgr.block g (by omega) fun e1=> ?_).trans h'
 rcases hown.2 with⟨rfl,_⟩|⟨g',cap,cur,rfl,_,hb,_⟩
 ·simp[Value.ownBlock] at e1
 ·have:g=g':=by simpa [Value.ownBlock] using e1
  subst this
  unfold Blk at h
  rw[h] at hb
  injection hb with hb
  injection hb with _ h2 _
  exact ht h2
theorem Dj.rex {L:List Nat} {w w':World} {s:A8} {ps po:Option Addr} (h:Dj w s ps po) (hr:Rex L w w') (hL:L= []):Dj w' s ps po:=by subst hL;exact h.below hr.below
theorem Dj.drew {w:World} {s:A8} {ps po:Option Addr} (h:Dj w s ps po):Dj w.drew s ps po:=
 ⟨⟨fun i r hr=>by
  obtain⟨b,o,p',q',cap,vc,e,h1,h2,h3⟩:=h.segs.at' i r hr
  exact⟨b,o,p',q',cap,vc,e,h1,⟨⟨h2.runs.at'⟩,⟨h2.raw.at'⟩,h2.fewR,h2.fewV⟩,h3⟩⟩,h.opn.drew,h.fewS,h.fewO⟩
theorem Ld {w:World} {B:Nat} {e:TypeId} {s n n':Nat} {v:Value} {xs xs':List Value} (h:w.ownsRow B e s v n xs) (e1:n=n') (e2:xs=xs'):w.ownsRow B e s v n' xs':=by subst e1;subst e2;exact h
theorem three_news {W:World} {g:Nat} {x y z:Int} {t:TypeId} (h:Blk W g #[.int .i64 x,.int .i64 y,.int .i64 z] t) {j:Nat} {u:Value} (hu: [Value.int .i64 x,.int .i64 y,.int .i64 z][j]? =some u):W.cell? ((⟨g,0,none⟩:Addr).add j)=some u:=by
 have hadd:(⟨g,0,none⟩:Addr).add j=⟨g,j,none⟩:=by unfold Addr.add;split<;>simp_all
 rw[hadd,h.cell]
 simpa using hu
def OneB (B:Nat) (x y z:Int):Bi:=fun v w=>∃g,v= .slice (some ⟨g,0,none⟩) 1 1/\B<=g/\Blk w g #[.int .i64 x,.int .i64 y,.int .i64 z] 64
theorem OneB.closed (B:Nat) (x y z:Int):A9 [] (OneB B x y z):=fun _ _ _ hr ⟨g,e1,h1,h⟩=>⟨g,e1,h1,h.rex hr (by simp)⟩
theorem Tryz.infoBack :(Tryz.prog.info? 64).map (fun i=>(i.zero,i.size,i.bytes))=some (some (.agg #[.int .i64 0,.int .i64 0,.int .i64 0]),3,24):=by kernel_rfl
def bkT (x:Int×Int×Int):Ah:=⟨x.1,x.2.1,x.2.2⟩
theorem Xg (L:List (Int×Int×Int)) (r:Int×Int×Int):As ((L++ [r]).map bkT)=As (L.map bkT)++ [.int .i64 r.1,.int .i64 r.2.1,.int .i64 r.2.2]:=by
 rw[List.map_append];exact F3 _ _
theorem Nu {l:List (Int×Int)} {m:Nat} {x:Int×Int} (f:Int×Int->Bool) (g:Int×Int->Int×Int×Int) (h:l[m]? =some x):((l.take (m+1)).filter f).map g=((l.take m).filter f).map g++(if f x then [g x] else []):=by
 rw[List.take_add_one,h,List.filter_append,List.map_append]
 cases hf:f x<;>simp[hf]
theorem sel_is (a b fl:Int) (x:Int×Int):Gf (mx a fl) b x=(decide (fl<=x.1)&&decide (a<=x.1)&&decide (x.1<=b)):=by
 have:=Wf a fl
 rw[Bool.eq_iff_iff]
 simp only[Gf,Bool.and_eq_true,decide_eq_true_eq]
 omega
def bk1Rel (w:World) (s:A8) (ps:Option Addr) (cs:Nat) (po:Option Addr) (co:Nat) (a b:Int) (a':Act) (W:World):Prop:=
 Below w.heap.size w W/\Blk W w.heap.size #[.string s.name,.int .i64 s.eps,.int .i64 s.floor,.int .i64 s.last,.int .i64 s.scale,.slice ps s.segs.length cs,.slice po s.opn.length co] 79/\∃(k:Nat) (L:List (Int×Int×Int)) (v:Value),(∃u:Nat->Value,a'= {tmps:= #[.agg #[.string s.name,.int .i64 s.eps,.int .i64 s.floor,.int .i64 s.last,.int .i64 s.scale,.slice ps s.segs.length cs,.slice po s.opn.length co],.int .i64 a,.int .i64 b,.pointer (some ⟨w.heap.size,0,none⟩),u 4,u 5,u 6,v,.int .i64 (k:Int),u 9,u 10,u 11,u 12,u 13,u 14,u 15,u 16,u 17,u 18,u 19,u 20,u 21,u 22,u 23,u 24,u 25,u 26,u 27,u 28,u 29,u 30,u 31,u 32,u 33,u 34,u 35,u 36,u 37,u 38,u 39,u 40,u 41,u 42,u 43,u 44,u 45,u 46,u 47,u 48,u 49,u 50,u 51,u 52,u 53,u 54,u 55,u 56,u 57,u 58,u 59,u 60,u 61,u 62,u 63,u 64,u 65,u 66,u 67,u 68,u 69,u 70,u 71,u 72,u 73,u 74,u 75,u 76,u 77,u 78,u 79,u 80,u 81,u 82,u 83,u 84,u 85,u 86,u 87,u 88,u 89,u 90,u 91,u 92,u 93,u 94,u 95,u 96,u 97,u 98,u 99,u 100,u 101,u 102,u 103,u 104,u 105,u 106,u 107,u 108,u 109,u 110,u 111,u 112,u 113,u 114,u 115,u 116,u 117,u 118,u 119],defers:= []})/\
  Bj W w.heap.size 64 3 v L.length (As (L.map bkT))/\L=(s.segs.take k).flatMap (Nv (mx a s.floor) b)/\k<=s.segs.length/\L.length<=256*k
def bk2Rel (w:World) (s:A8) (ps:Option Addr) (cs:Nat) (po:Option Addr) (co:Nat) (a b:Int) (k g cp:Nat) (cur:Array Value) (x:Aw) (L:List (Int×Int×Int)) (a':Act) (W:World):Prop:=
 Below w.heap.size w W/\Blk W w.heap.size #[.string s.name,.int .i64 s.eps,.int .i64 s.floor,.int .i64 s.last,.int .i64 s.scale,.slice ps s.segs.length cs,.slice po s.opn.length co] 79/\Blk W g cur 58/\∃(m:Nat) (M:List (Int×Int×Int)) (v:Value),(∃u:Nat->Value,a'= {tmps:= #[.agg #[.string s.name,.int .i64 s.eps,.int .i64 s.floor,.int .i64 s.last,.int .i64 s.scale,.slice ps s.segs.length cs,.slice po s.opn.length co],.int .i64 a,.int .i64 b,.pointer (some ⟨w.heap.size,0,none⟩),u 4,u 5,u 6,v,.int .i64 (k:Int),.slice (some ⟨g,0,none⟩) (B9 x).length cp,.bool true,.int .i64 (m:Int),u 12,u 13,u 14,u 15,u 16,u 17,u 18,u 19,u 20,u 21,u 22,u 23,u 24,u 25,u 26,u 27,u 28,u 29,u 30,u 31,u 32,u 33,u 34,u 35,u 36,u 37,u 38,u 39,u 40,u 41,u 42,u 43,u 44,u 45,u 46,u 47,u 48,u 49,u 50,u 51,u 52,u 53,u 54,u 55,u 56,u 57,u 58,u 59,u 60,u 61,u 62,u 63,u 64,u 65,u 66,u 67,u 68,u 69,u 70,u 71,u 72,u 73,u 74,u 75,u 76,u 77,u 78,u 79,u 80,u 81,u 82,u 83,u 84,u 85,u 86,u 87,u 88,u 89,u 90,u 91,u 92,u 93,u 94,u 95,u 96,u 97,u 98,u 99,u 100,u 101,u 102,u 103,u 104,u 105,u 106,u 107,u 108,u 109,u 110,u 111,u 112,u 113,u 114,u 115,u 116,u 117,u 118,u 119],defers:= []})/\
  Bj W w.heap.size 64 3 v (L++M).length (As ((L++M).map bkT))/\M=(((B9 x).take m).filter (Gf (mx a s.floor) b)).map (fun p=>(p.1,p.2,x.E))/\m<=(B9 x).length/\M.length<=m
def bk3Rel (w:World) (s:A8) (ps:Option Addr) (cs:Nat) (po:Option Addr) (co:Nat) (a b:Int) (L:List (Int×Int×Int)) (a':Act) (W:World):Prop:=
 Below w.heap.size w W/\Blk W w.heap.size #[.string s.name,.int .i64 s.eps,.int .i64 s.floor,.int .i64 s.last,.int .i64 s.scale,.slice ps s.segs.length cs,.slice po s.opn.length co] 79/\∃(m:Nat) (M:List (Int×Int×Int)) (v:Value),(∃u:Nat->Value,a'= {tmps:= #[.agg #[.string s.name,.int .i64 s.eps,.int .i64 s.floor,.int .i64 s.last,.int .i64 s.scale,.slice ps s.segs.length cs,.slice po s.opn.length co],.int .i64 a,.int .i64 b,.pointer (some ⟨w.heap.size,0,none⟩),u 4,u 5,u 6,v,u 8,u 9,u 10,u 11,.int .i64 (m:Int),u 13,u 14,u 15,u 16,u 17,u 18,u 19,u 20,u 21,u 22,u 23,u 24,u 25,u 26,u 27,u 28,u 29,u 30,u 31,u 32,u 33,u 34,u 35,u 36,u 37,u 38,u 39,u 40,u 41,u 42,u 43,u 44,u 45,u 46,u 47,u 48,u 49,u 50,u 51,u 52,u 53,u 54,u 55,u 56,u 57,u 58,u 59,u 60,u 61,u 62,u 63,u 64,u 65,u 66,u 67,u 68,u 69,u 70,u 71,u 72,u 73,u 74,u 75,u 76,u 77,u 78,u 79,u 80,u 81,u 82,u 83,u 84,u 85,u 86,u 87,u 88,u 89,u 90,u 91,u 92,u 93,u 94,u 95,u 96,u 97,u 98,u 99,u 100,u 101,u 102,u 103,u 104,u 105,u 106,u 107,u 108,u 109,u 110,u 111,u 112,u 113,u 114,u 115,u 116,u 117,u 118,u 119],defers:= []})/\
  Bj W w.heap.size 64 3 v (L++M).length (As ((L++M).map bkT))/\M=((s.opn.take m).filter (Gf (mx a s.floor) b)).map (fun p=>(p.1,p.2,0))/\m<=s.opn.length/\M.length<=m
theorem refBack_w (s:A8) (ps:Option Addr) (cs:Nat) (po:Option Addr) (co:Nat) (a b:Int) (w:World) (hin:Dj w s ps po) (hv:∀x,x∈s.segs->Cr x=true):
  Calls Tryz.prog 40 #[.agg #[.string s.name,.int .i64 s.eps,.int .i64 s.floor,.int .i64 s.last,.int .i64 s.scale,.slice ps s.segs.length cs,.slice po s.opn.length co],.int .i64 a,.int .i64 b] w fun e w'=>∃v,e= .returned v/\Bj w' w.heap.size 64 3 v (Ef s a b).length (As ((Ef s a b).map bkT))/\Below w.heap.size w w':=by
 obtain⟨i0,hi,hz0,hz1,hz2⟩:=info_parts Tryz.infoBack
 have hfS:=hin.fewS
 have hfO:=hin.fewO
 go_enter Tryz.func40,Tryz.ntmps40
 go_wp2
 refine wp_loop (bk1Rel w s ps cs po co a b) (fun a' _=>s.segs.length-(Ag (a'.tmps.getD 8 undef)).toNat) ?_ ?_
 ·unfold bk1Rel
  exact⟨Aa,by exact Ad,0,[],_,Ac rfl,Bj.nil _ _ _ _,by simp,by omega,by simp⟩
 rintro a' W ⟨hW0,b1,k,L,v,⟨u,rfl⟩,hown,hL,hk,hL6⟩
 have hz:=hW0.size
 have zb1:=b1.lt
 rcases Nat.lt_or_ge k s.segs.length with hlk|hge
 ·obtain⟨x,tr⟩:∃r,s.segs[k]? =some r:=⟨s.segs[k]'(by omega),List.getElem?_eq_getElem (by omega)⟩
  have hsx:=hv x (List.mem_of_getElem? tr)
  have hin':=hin.below hW0
  obtain⟨bs,os,p',q',cps,vc,rfl,hs,hvc,q0,q1,q2,q3,q4,q5,q6,q7⟩:=hin'.segs.one tr
  have cP:=Hd (fun W' (hW':Below W.heap.size W W')=>Zq x p' q' cps vc W' (hs.below hW') hsx)
  unfold C9 at cP
  have hln:=Gj hsx
  have hcn:=D0 (Bp hsx)
  have zc:=Ap q0
  try simp only at zc
  replace hL:=Hd hL
  replace tr:=Hd tr
  have k1:=b1.cell
  have f1:=b1.frozen
  go_wp2_with fail
  refine(cP.out _ Aa).mono ?_
  rintro e w21 ⟨v1,rfl,hv1,hb21⟩
  have z22:=hb21.size
  try simp at z22
  clear k1 f1
  have b1:Blk w21 w.heap.size #[.string s.name,.int .i64 s.eps,.int .i64 s.floor,.int .i64 s.last,.int .i64 s.scale,.slice (some ⟨bs,os,none⟩) s.segs.length cs,.slice po s.opn.length co] 79:=Ad
  have hW:Below W.heap.size W w21:=Aa
  have z23:=b1.lt
  have k1:=b1.cell
  have f1:=b1.frozen
  obtain⟨g,cp,cur,rfl,b2,htk⟩:=hv1.ptsB (by omega)
  have hW1:=hW0.trans (hW.mono hz)
  have hown1:=hown.below hW
  replace htk:=Hd htk
  clear hv1 hown cP hW q0 q1 q2 q3 q4 q5 q6 q7 k1 f1
  go_wp2
  refine wp_loop (bk2Rel w s (some ⟨bs,os,none⟩) cs po co a b k g cp cur x L) (fun a' _=>(B9 x).length-(Ag (a'.tmps.getD 11 undef)).toNat) ?_ ?_
  ·unfold bk2Rel
   exact⟨hW1,b1,b2,0,[],_,Ac rfl,by rw[List.append_nil];exact hown1,by simp,by omega,by simp⟩
  rintro a' V ⟨hV0,b1,b2,m,M,v,⟨u,rfl⟩,hown,hM,hm,hMl⟩
  have hzv:=hV0.size
  have zb1:=b1.lt
  have zb2:=b2.lt
  have hin':=hin.below hV0
  rcases Nat.lt_or_ge m (B9 x).length with hlt|hge
  ·obtain⟨⟨t,y⟩,tm⟩:∃r,(B9 x)[m]? =some r:=⟨(B9 x)[m]'(by omega),List.getElem?_eq_getElem (by omega)⟩
   have hst:=Nu (Gf (mx a s.floor) b) (fun p=>(p.1,p.2,x.E)) tm
   rw[<-hM,sel_is] at hst
   replace tm:=Hd tm
   simp only at hst
   cases hc:(decide (s.floor<=t)&&decide (a<=t)&&decide (t<=b)) with
   |false=>
    rw[hc] at hst
    replace hc:=Hd hc
    replace hM:=Hd (show M=(((B9 x).take (m+1)).filter (Gf (mx a s.floor) b)).map (fun p=>(p.1,p.2,x.E)) by rw[hst];simp)
    clear hst
    go_upto_region 9 with(fail)
    refine Bd (fun W'=>Below V.heap.size V W'/\Blk W' w.heap.size #[.string s.name,.int .i64 s.eps,.int .i64 s.floor,.int .i64 s.last,.int .i64 s.scale,.slice (some ⟨bs,os,none⟩) s.segs.length cs,.slice po s.opn.length co] 79/\Ar W' (some ⟨g,0,none⟩) (B9 x)/\Blk W' g cur 58) ⟨by exact Aa,by exact Ad,by first|exact Pd b2 htk.out|exact b2,by exact Ad⟩ ?_
    rintro W41 ⟨hW,b1,b2,b3⟩
    have z42:=hW.size
    have z43:=b1.lt
    have z44:=b3.lt
    refine D7 26 120 [] (fun W'=>Rex [] W41 W'/\Blk W' w.heap.size #[.string s.name,.int .i64 s.eps,.int .i64 s.floor,.int .i64 s.last,.int .i64 s.scale,.slice (some ⟨bs,os,none⟩) s.segs.length cs,.slice po s.opn.length co] 79/\Ar W' (some ⟨g,0,none⟩) (B9 x)/\Blk W' g cur 58) Cu (by kernel_rfl) rfl ⟨(Rex.refl _ _).drew,b1,b2.drew,b3⟩ (fun w w' ⟨h0,h1,h2,h3⟩ hr=>⟨h0.trans hr,h1.rex hr (by simp<;>omega),h2.rex hr (by simp<;>omega),h3.rex hr (by simp<;>omega)⟩) rfl ?_
    iterate 26
     first
     |(
      apply An (hg:=rfl) (hal:=rfl)
      ·intro a W' hC hE
       obtain⟨_,k1,k2,k3⟩:=hC
       have k1:=k1.cell
       obtain⟨b',o',e9,q1,q2⟩:=k2.at' m (t,y) tm.out;obtain⟨rfl,rfl⟩:g=b'/\0=o':=(by injection e9 with e9;injection e9 with e1 e2;exact⟨e1,e2⟩);simp only[Nat.zero_add] at q1 q2
       first
        |(simp at hE;simp[go_sem,Act.eval,iw,hE,k1,k2,k3,q1,q2,hlt];try rfl)
        |(clear hE;simp[go_sem,Act.eval,iw,k1,k2,k3,q1,q2,hlt];try rfl))
     |(
      apply Ai (p:=true) (hg:=rfl) (hd:=rfl) (hal:=rfl)
      ·intro v W' h
       simp[Af,Det,Am] at h
       simp
       exact h
      ·intro hp hx a W' hC hE
       obtain⟨_,k1,k2,k3⟩:=hC
       have k1:=k1.cell
       obtain⟨b',o',e9,q1,q2⟩:=k2.at' m (t,y) tm.out;obtain⟨rfl,rfl⟩:g=b'/\0=o':=(by injection e9 with e9;injection e9 with e1 e2;exact⟨e1,e2⟩);simp only[Nat.zero_add] at q1 q2
       simp[hx] at hE
       simp[go_sem,Act.eval,iw,hE,k1,k2,k3,q1,q2,hlt]
       try rfl)
     |(
      apply Cm (ho:=rfl) (hg:=rfl)
      ·intro v W' h
       simp at h
       exact h
      ·intro v W' h hx
       simp[hx] at h
       exact h)
    rintro W45 ⟨hR,d1,d2,d3⟩
    simp only[A6,Det,forall_eq]
    intros
    repeat (rename Am _ _ _ _=>hgd;clear hgd)
    simp only[nS]
    refine wpList_nil ?_
    replace hW:=hW.trans (hR.of_priv hW.size)
    clear hR
    try clear b1 b2 b3
    have b1:=d1
    clear d1
    have b2:=d2
    clear d2
    have b3:=d3
    clear d3
    rw[hc.out]
    have hV1:=hV0.trans (hW.mono hzv)
    go_wp2
    rw[show (m:Int)+1=((m+1:Nat):Int) by omega]
    refine⟨?_,by simp[Ag];omega⟩
    exact⟨hV1,b1,b3,m+1,M,v,Ac rfl,hown.below hW,hM.out,by omega,by omega⟩
   |true=>
    rw[hc] at hst
    replace hc:=Hd hc
    replace hM:=Hd (show M++ [(t,y,x.E)]=(((B9 x).take (m+1)).filter (Gf (mx a s.floor) b)).map (fun p=>(p.1,p.2,x.E)) by rw[hst];simp)
    clear hst
    go_upto_region 9 with(fail)
    refine Bd (fun W'=>Below V.heap.size V W'/\Blk W' w.heap.size #[.string s.name,.int .i64 s.eps,.int .i64 s.floor,.int .i64 s.last,.int .i64 s.scale,.slice (some ⟨bs,os,none⟩) s.segs.length cs,.slice po s.opn.length co] 79/\Ar W' (some ⟨g,0,none⟩) (B9 x)/\Blk W' g cur 58) ⟨by exact Aa,by exact Ad,by first|exact Pd b2 htk.out|exact b2,by exact Ad⟩ ?_
    rintro W41 ⟨hW,b1,b2,b3⟩
    have z42:=hW.size
    have z43:=b1.lt
    have z44:=b3.lt
    refine D7 26 120 [] (fun W'=>Rex [] W41 W'/\Blk W' w.heap.size #[.string s.name,.int .i64 s.eps,.int .i64 s.floor,.int .i64 s.last,.int .i64 s.scale,.slice (some ⟨bs,os,none⟩) s.segs.length cs,.slice po s.opn.length co] 79/\Ar W' (some ⟨g,0,none⟩) (B9 x)/\Blk W' g cur 58) Cu (by kernel_rfl) rfl ⟨(Rex.refl _ _).drew,b1,b2.drew,b3⟩ (fun w w' ⟨h0,h1,h2,h3⟩ hr=>⟨h0.trans hr,h1.rex hr (by simp<;>omega),h2.rex hr (by simp<;>omega),h3.rex hr (by simp<;>omega)⟩) rfl ?_
    iterate 26
     first
     |(
      apply An (hg:=rfl) (hal:=rfl)
      ·intro a W' hC hE
       obtain⟨_,k1,k2,k3⟩:=hC
       have k1:=k1.cell
       obtain⟨b',o',e9,q1,q2⟩:=k2.at' m (t,y) tm.out;obtain⟨rfl,rfl⟩:g=b'/\0=o':=(by injection e9 with e9;injection e9 with e1 e2;exact⟨e1,e2⟩);simp only[Nat.zero_add] at q1 q2
       first
        |(simp at hE;simp[go_sem,Act.eval,iw,hE,k1,k2,k3,q1,q2,hlt];try rfl)
        |(clear hE;simp[go_sem,Act.eval,iw,k1,k2,k3,q1,q2,hlt];try rfl))
     |(
      apply Ai (p:=true) (hg:=rfl) (hd:=rfl) (hal:=rfl)
      ·intro v W' h
       simp[Af,Det,Am] at h
       simp
       exact h
      ·intro hp hx a W' hC hE
       obtain⟨_,k1,k2,k3⟩:=hC
       have k1:=k1.cell
       obtain⟨b',o',e9,q1,q2⟩:=k2.at' m (t,y) tm.out;obtain⟨rfl,rfl⟩:g=b'/\0=o':=(by injection e9 with e9;injection e9 with e1 e2;exact⟨e1,e2⟩);simp only[Nat.zero_add] at q1 q2
       simp[hx] at hE
       simp[go_sem,Act.eval,iw,hE,k1,k2,k3,q1,q2,hlt]
       try rfl)
     |(
      apply Cm (ho:=rfl) (hg:=rfl)
      ·intro v W' h
       simp at h
       exact h
      ·intro v W' h hx
       simp[hx] at h
       exact h)
    rintro W45 ⟨hR,d1,d2,d3⟩
    simp only[A6,Det,forall_eq]
    intros
    repeat (rename Am _ _ _ _=>hgd;clear hgd)
    simp only[nS]
    refine wpList_nil ?_
    replace hW:=hW.trans (hR.of_priv hW.size)
    clear hR
    try clear b1 b2 b3
    have b1:=d1
    clear d1
    have b2:=d2
    clear d2
    have b3:=d3
    clear d3
    rw[hc.out]
    go_upto_region 10 with(fail)
    refine Bd (fun W'=>Below V.heap.size V W'/\Blk W' w.heap.size #[.string s.name,.int .i64 s.eps,.int .i64 s.floor,.int .i64 s.last,.int .i64 s.scale,.slice (some ⟨bs,os,none⟩) s.segs.length cs,.slice po s.opn.length co] 79/\Ar W' (some ⟨g,0,none⟩) (B9 x)/\Blk W' g cur 58/\Dj W' s (some ⟨bs,os,none⟩) po) ⟨by exact Aa,by exact Ad,by first|exact Pd b2 htk.out|exact b2,by exact Ad,by first|exact hin'.below (by assumption)|exact hin'⟩ ?_
    clear hW
    rintro W61 ⟨hW,b1,b2,b3,b4⟩
    have z62:=hW.size
    have z63:=b1.lt
    have z64:=b3.lt
    refine Az 19 120 [] (fun W'=>Rex [] W61 W'/\Blk W' w.heap.size #[.string s.name,.int .i64 s.eps,.int .i64 s.floor,.int .i64 s.last,.int .i64 s.scale,.slice (some ⟨bs,os,none⟩) s.segs.length cs,.slice po s.opn.length co] 79/\Ar W' (some ⟨g,0,none⟩) (B9 x)/\Blk W' g cur 58/\Dj W' s (some ⟨bs,os,none⟩) po) Cu (by kernel_rfl) rfl ⟨(Rex.refl _ _).drew,b1,b2.drew,b3,b4.drew⟩ (fun w w' ⟨h0,h1,h2,h3,h4⟩ hr=>⟨h0.trans hr,h1.rex hr (by simp<;>omega),h2.rex hr (by simp<;>omega),h3.rex hr (by simp<;>omega),h4.rex hr (by simp<;>omega)⟩) (fun c a d v w h=>by cases d<;>exact h) ?_
    iterate 18
     apply An (hg:=rfl) (hal:=rfl)
     ·intro a W' hC hE
      obtain⟨_,k1,k2,k3,k4⟩:=hC
      have k1:=k1.cell
      obtain⟨b',o',e9,q1,q2⟩:=k2.at' m (t,y) tm.out;obtain⟨rfl,rfl⟩:g=b'/\0=o':=(by injection e9 with e9;injection e9 with e1 e2;exact⟨e1,e2⟩);simp only[Nat.zero_add] at q1 q2;obtain⟨b2,o2,p2,q2',cp2,vc2,e10,-,-,r0,r1,r2,r3,r4,r5,r6,r7⟩:=k4.segs.one tr.out;obtain⟨rfl,rfl⟩:bs=b2/\os=o2:=(by injection e10 with e10;injection e10 with e1 e2;exact⟨e1,e2⟩)
      first
       |(simp at hE;simp[go_sem,Act.eval,iw,hE,k1,k2,k3,k4,q1,q2,hlt,hlk,r7];try rfl)
       |(clear hE;simp[go_sem,Act.eval,iw,k1,k2,k3,k4,q1,q2,hlt,hlk,r7];try rfl)
    apply Rs (OneB W61.heap.size t y x.E) (hg:=rfl) (hal:=rfl)
    ·exact OneB.closed _ _ _ _
    ·intro a' W' hC hE
     simp at hE
     refine⟨.slice (some ⟨W'.heap.size,0,none⟩) 1 1,W'.alloc (.cells #[.int .i64 t,.int .i64 y,.int .i64 x.E] 64),?_,(Below.refl _ _).alloc (Nat.le_refl _) _,W'.heap.size,rfl,hC.1.size,Blk.new' rfl⟩
     simp[go_sem,execOp,Act.eval,hE]
     try rfl
     done
    rintro W65 ⟨hR,d1,d2,d3,d4⟩
    simp only[A6,Det,forall_eq]
    intros
    repeat (rename Am _ _ _ _=>hgd;clear hgd)
    simp only[nS]
    replace hW:=hW.trans (hR.of_priv hW.size)
    clear hR
    try clear b1 b2 b3 b4
    have b1:=d1
    clear d1
    have b2:=d2
    clear d2
    have b3:=d3
    clear d3
    have b4:=d4
    clear d4
    rename OneB _ _ _ _ _ _=>ho
    obtain⟨g1,rfl,hg1,bg⟩:=ho
    have y1:=bg.lt
    have hV1:=hV0.trans (hW.mono hzv)
    have hO:=hown.below hW
    clear hown hW
    have zz:=hV1.size
    have hlo:=fun g e=>hO.own.lt g e
    go_wp2_with (at_builtin;refine Hn rfl (.tmp 62) (.tmp 80) 45 rfl w.heap.size 64 i0 (.agg #[.int .i64 0,.int .i64 0,.int .i64 0]) 3 24 (by kernel_rfl) hi hz0 hz1 hz2 rfl (by decide) _ _ _ rfl hO.own ⟨g1,0,none⟩ 1 1 [.int .i64 t,.int .i64 y,.int .i64 x.E] rfl rfl (fun j u hu=>three_news bg hu) (by simp[Value.oneCell']) (by simp[maxLen];omega) (by simp only[List.length_append];omega) (by omega) ?_)
    intro v' w9 hown2 hgr hst
    have hB:=Hd (P3 hV1 (by omega) hgr (fun g e=>(hlo g e).1))
    have d1:=b1.grown0 hO.own (by decide) hgr
    have d2:=b3.grown0 hO.own (by decide) hgr
    replace hown2:=Hd hown2
    clear hgr hst hO hlo b1 b2 b3 b4 bg
    go_wp2
    rw[show (m:Int)+1=((m+1:Nat):Int) by omega]
    refine⟨?_,by simp[Ag];omega⟩
    exact⟨hB.out,d1,d2,m+1,M++ [(t,y,x.E)],v',Ac rfl,⟨Ld hown2.out (by simp only[List.length_append,List.length_cons,List.length_nil];omega) (by rw[<-List.append_assoc,Xg];simp only[List.map_append])⟩,hM.out,by omega,by simp;omega⟩
  ·obtain rfl:m=(B9 x).length:=by omega
   have hx:=Hd (show L++M=(s.segs.take (k+1)).flatMap (Nv (mx a s.floor) b) by rw[Hl _ tr.out,<-hL.out,hM,List.take_length];rfl)
   clear hM
   go_wp2
   rw[show (k:Int)+1=((k+1:Nat):Int) by omega]
   refine⟨?_,by simp[Ag];omega⟩
   unfold bk1Rel
   exact⟨hV0,b1,k+1,L++M,v,Ac rfl,hown,hx.out,by omega,by simp only[List.length_append];omega⟩
 ·obtain rfl:k=s.segs.length:=by omega
  rw[List.take_length] at hL
  replace hL:=Hd hL
  have k1:=b1.cell
  have f1:=b1.frozen
  go_wp2
  refine wp_loop (bk3Rel w s ps cs po co a b L) (fun a' _=>s.opn.length-(Ag (a'.tmps.getD 12 undef)).toNat) ?_ ?_
  ·unfold bk3Rel
   exact⟨hW0,b1,0,[],_,Ac rfl,by rw[List.append_nil];exact hown,by simp,by omega,by simp⟩
  rintro a' V ⟨hV0,b1,m,M,v,⟨u,rfl⟩,hown,hM,hm,hMl⟩
  have hzv:=hV0.size
  have zb1:=b1.lt
  rcases Nat.lt_or_ge m s.opn.length with hlt|hge
  ·obtain⟨⟨t,y⟩,tm⟩:∃r,s.opn[m]? =some r:=⟨s.opn[m]'(by omega),List.getElem?_eq_getElem (by omega)⟩
   obtain⟨bo,oo,rfl,q0,q1⟩:=(hin.below hV0).opn.at' m _ tm
   simp only at q0 q1
   have zc:=Ap q0
   try simp only at zc
   have hst:=Nu (Gf (mx a s.floor) b) (fun p=>(p.1,p.2,(0:Int))) tm
   rw[<-hM,sel_is] at hst
   simp only at hst
   by_cases g1:s.floor<=t
   ·by_cases g2:a<=t
    ·by_cases g3:t<=b
     ·rw[decide_eq_true g1,decide_eq_true g2,decide_eq_true g3] at hst
      replace hM:=Hd (show M++ [(t,y,0)]=((s.opn.take (m+1)).filter (Gf (mx a s.floor) b)).map (fun p=>(p.1,p.2,0)) by rw[hst];simp)
      clear hst tm
      have k1:=b1.cell
      have f1:=b1.frozen
      go_upto_region 16 with(fail)
      clear k1 f1
      refine Bd (fun W'=>Below V.heap.size V W'/\Blk W' w.heap.size #[.string s.name,.int .i64 s.eps,.int .i64 s.floor,.int .i64 s.last,.int .i64 s.scale,.slice ps s.segs.length cs,.slice (some ⟨bo,oo,none⟩) s.opn.length co] 79/\Blk W' V.heap.size #[.int .i64 t,.int .i64 y] 58) ⟨by exact Aa,by exact Ad,by exact Ad⟩ ?_
      clear b1
      rintro W81 ⟨hW,b1,b2⟩
      have z82:=hW.size
      have z83:=b1.lt
      have z84:=b2.lt
      have k1:=b1.cell
      have f1:=b1.frozen
      have k2:=b2.cell
      have f2:=b2.frozen
      have hV1:=hV0.trans (hW.mono hzv)
      have hO:=hown.below hW
      clear hown hW
      have zz:=hV1.size
      have zq:=b2.lt
      go_wp2_with (at_builtin;refine wpList_append_own _ rfl (.tmp 111) (.tmp 117) 45 rfl w.heap.size 64 i0 (.agg #[.int .i64 0,.int .i64 0,.int .i64 0]) 3 24 (by kernel_rfl) hi hz0 hz1 hz2 rfl (by decide) _ _ _ rfl (hO.own.alloc _) ⟨W81.heap.size,0,none⟩ 1 1 [.int .i64 t,.int .i64 y,.int .i64 0] rfl rfl (Em _ _ _ _ _) (by simp[Value.oneCell']) (by simp[maxLen];omega) (by simp only[List.length_append];omega) (by simp;omega) ?_)
      intro v' w9 hown2 hgr _
      have hB:=Hd (A7 hV1 zz hO.own hgr)
      have d1:=b1.grown hO.own (by decide) hgr
      replace hown2:=Hd hown2
      clear hgr hO b1 b2 k1 k2 f1 f2
      go_wp2
      rw[show (m:Int)+1=((m+1:Nat):Int) by omega]
      refine⟨?_,by simp[Ag];omega⟩
      exact⟨hB.out,d1,m+1,M++ [(t,y,0)],v',Ac rfl,⟨Ld hown2.out (by simp only[List.length_append,List.length_cons,List.length_nil];omega) (by rw[<-List.append_assoc,Xg];simp only[List.map_append])⟩,hM.out,by omega,by simp;omega⟩
     ·rw[decide_eq_false g3,Bool.and_false] at hst
      replace hM:=Hd (show M=((s.opn.take (m+1)).filter (Gf (mx a s.floor) b)).map (fun p=>(p.1,p.2,0)) by rw[hst];simp)
      clear hst tm
      have k1:=b1.cell
      have f1:=b1.frozen
      go_wp2
      rw[show (m:Int)+1=((m+1:Nat):Int) by omega]
      refine⟨?_,by simp[Ag];omega⟩
      have hA:Below V.heap.size V (V.alloc (.cells #[.int .i64 t,.int .i64 y] 58)):=Aa
      exact⟨hV0.trans (hA.mono hzv),by exact Ad,m+1,M,v,Ac rfl,hown.below hA,hM.out,by omega,by omega⟩
    ·rw[decide_eq_false g2,Bool.and_false,Bool.false_and] at hst
     replace hM:=Hd (show M=((s.opn.take (m+1)).filter (Gf (mx a s.floor) b)).map (fun p=>(p.1,p.2,0)) by rw[hst];simp)
     clear hst tm
     have k1:=b1.cell
     have f1:=b1.frozen
     go_wp2
     rw[show (m:Int)+1=((m+1:Nat):Int) by omega]
     refine⟨?_,by simp[Ag];omega⟩
     have hA:Below V.heap.size V (V.alloc (.cells #[.int .i64 t,.int .i64 y] 58)):=Aa
     exact⟨hV0.trans (hA.mono hzv),by exact Ad,m+1,M,v,Ac rfl,hown.below hA,hM.out,by omega,by omega⟩
   ·rw[decide_eq_false g1,Bool.false_and,Bool.false_and] at hst
    replace hM:=Hd (show M=((s.opn.take (m+1)).filter (Gf (mx a s.floor) b)).map (fun p=>(p.1,p.2,0)) by rw[hst];simp)
    clear hst tm
    have k1:=b1.cell
    have f1:=b1.frozen
    go_wp2
    rw[show (m:Int)+1=((m+1:Nat):Int) by omega]
    refine⟨?_,by simp[Ag];omega⟩
    have hA:Below V.heap.size V (V.alloc (.cells #[.int .i64 t,.int .i64 y] 58)):=Aa
    exact⟨hV0.trans (hA.mono hzv),by exact Ad,m+1,M,v,Ac rfl,hown.below hA,hM.out,by omega,by omega⟩
  ·obtain rfl:m=s.opn.length:=by omega
   rw[List.take_length] at hM
   have hT:=Hd (show Ef s a b=L++M by rw[hL.out,hM];rfl)
   clear hM
   have k1:=b1.cell
   have f1:=b1.frozen
   go_wp2
   refine bodyPost_ret (v:=v) (by simp[results,Tryz.results40,go_sem]) rfl ⟨v,rfl,?_,hV0⟩
   rw[hT.out]
   exact hown
end Go.Proofs.YtdeghcgakkhbmaaGreat
namespace Go.Proofs.YtdeghcgakkhbmaaGreat
open Go.RowKit
theorem ints_flat9 {w:World} {a:Addr} {l:List Int} (h:A3 w (some a) l) (j:Nat) (u:Value) (hu:(l.map (Value.int .i64))[j]? =some u):w.cell? (a.add j)=some u:=by
 rw[List.getElem?_map] at hu
 cases hx:l[j]? with
 |none=>rw[hx] at hu;cases hu
 |some x=>
  rw[hx] at hu
  obtain⟨b,o,e,c0⟩:=h.at' j x hx
  injection e with e
  subst e
  rw[show (⟨b,o,none⟩:Addr).add j=⟨b,o+j,none⟩ by unfold Addr.add;split<;>simp_all,c0,<-hu]
  rfl
theorem ints_one9 {l:List Int} (u:Value) (hu:u∈l.map (Value.int .i64)):u.oneCell'=true:=by
 obtain⟨x,_,rfl⟩:=List.mem_map.1 hu
 rfl
def Q4 (w:World) (s:A8) (ps:Option Addr) (cs:Nat) (po:Option Addr) (co:Nat) (a':Act) (W:World):Prop:=
 Below w.heap.size w W/\Blk W w.heap.size #[.string s.name,s.eps,s.floor,s.last,s.scale,.slice ps s.segs.length cs,.slice po s.opn.length co] 79/\∃(k:Nat) (v:Value),(∃u:Nat->Value,a'= {tmps:= #[.agg #[.string s.name,s.eps,s.floor,s.last,s.scale,.slice ps s.segs.length cs,.slice po s.opn.length co],.pointer (some ⟨w.heap.size,0,none⟩),u 2,v,u 4,u 5,u 6,u 7,u 8,.slice ps s.segs.length cs,.int .i64 (s.segs.length:Int),.int .i64 (k:Int),u 12,u 13,u 14,u 15,u 16,u 17,u 18,u 19,u 20,u 21,u 22,u 23,u 24,u 25,u 26,u 27,u 28,u 29,u 30,u 31,u 32,u 33,u 34],defers:= []})/\Bj W w.heap.size 2 1 v ((s.segs.take k).flatMap fun x:Aw=>Ae x.runs).length (((s.segs.take k).flatMap fun x:Aw=>Ae x.runs).map (Value.int .i64))/\k<=s.segs.length
def Q3 (w:World) (s:A8) (ps:Option Addr) (cs:Nat) (po:Option Addr) (co:Nat) (a':Act) (W:World):Prop:=
 Below w.heap.size w W/\Blk W w.heap.size #[.string s.name,s.eps,s.floor,s.last,s.scale,.slice ps s.segs.length cs,.slice po s.opn.length co] 79/\∃(k:Nat) (v:Value),(∃u:Nat->Value,a'= {tmps:= #[.agg #[.string s.name,s.eps,s.floor,s.last,s.scale,.slice ps s.segs.length cs,.slice po s.opn.length co],.pointer (some ⟨w.heap.size,0,none⟩),u 2,v,u 4,u 5,u 6,u 7,u 8,u 9,u 10,u 11,u 12,u 13,u 14,u 15,u 16,u 17,u 18,u 19,u 20,u 21,.slice po s.opn.length co,.int .i64 (s.opn.length:Int),.int .i64 (k:Int),u 25,u 26,u 27,u 28,u 29,u 30,u 31,u 32,u 33,u 34],defers:= []})/\Bj W w.heap.size 2 1 v ((s.segs.flatMap fun x:Aw=>Ae x.runs)++(s.opn.take k).map (·.1)).length (((s.segs.flatMap fun x:Aw=>Ae x.runs)++(s.opn.take k).map (·.1)).map (Value.int .i64))/\k<=s.opn.length
theorem Zf {s:A8} (hv:∀x,x∈s.segs->Cr x=true) (k:Nat) (hk:k<=s.segs.length):((s.segs.take k).flatMap fun x:Aw=>Ae x.runs).length<=256*k:=by
 have h1:=Lj (fun x:Aw=>Ae x.runs) 256 (s.segs.take k) fun x hx=>by
  have:=Bp (hv x (List.mem_of_mem_take hx))
  have h2:=Bk this
  have:=(D0 this).2
  try simp only
  omega
 rw[List.length_take] at h1
 omega
theorem So (s:A8) (ps:Option Addr) (cs:Nat) (po:Option Addr) (co:Nat) (w:World) (hin:Dj w s ps po) (hv:∀x,x∈s.segs->Cr x=true):
  Calls Tryz.prog 133 #[.agg (Dy s ps cs po co)] w fun e w'=>∃p k,e= .returned (.slice p (Cd s).length k)/\A3 w' p (Cd s)/\Below w.heap.size w w':=by
 obtain⟨i0,hi,hz0,hz1,hz2⟩:=info_parts Tryz.infoI64
 have hfS:=hin.fewS
 have hfO:=hin.fewO
 unfold Dy
 go_enter Tryz.func133,Tryz.ntmps133
 go_wp2
 refine wp_loop (Q4 w s ps cs po co) (fun a' _=>s.segs.length-(Ag (a'.tmps.getD 11 undef)).toNat) ?_ ?_
 ·unfold Q4
  exact⟨Aa,by exact Ad,0,_,Ac rfl,Bj.nil _ _ _ _,by omega⟩
 rintro a' W ⟨hW0,b1,k,v,⟨u,rfl⟩,hown,hk⟩
 have hz:=hW0.size
 have zb1:=b1.lt
 have hl9:=Zf hv k hk
 rcases Nat.lt_or_ge k s.segs.length with hlk|hge
 ·obtain⟨x,tr⟩:∃r,s.segs[k]? =some r:=⟨s.segs[k]'(by omega),List.getElem?_eq_getElem (by omega)⟩
  have hsx:=hv x (List.mem_of_getElem? tr)
  obtain⟨bs,os,p',q',cps,vc,rfl,hs,hvc,q0,q1,q2,q3,q4,q5,q6,q7⟩:=(hin.below hW0).segs.one tr
  obtain⟨n,hn,hn9,tz,c1⟩:=Po x p' q' cps W hs hsx
  have hst:=Hd (Hl (fun x:Aw=>Ae x.runs) tr)
  replace c1:=Hd c1
  replace hn:=Hd hn
  replace tz:=Hd tz
  have zc:=Ap q0
  try simp only at zc
  have k1:=b1.cell
  have f1:=b1.frozen
  go_wp2_with fail
  refine(c1.out _ Aa).mono ?_
  rintro e w21 ⟨pT,kT,rfl,hI,hb21⟩
  have z22:=hb21.size
  try simp at z22
  clear k1 f1
  refine Aj W w21 (Bc w.heap.size #[.string s.name,s.eps,s.floor,s.last,s.scale,.slice (some ⟨bs,os,none⟩) s.segs.length cs,.slice po s.opn.length co] 79<|Bc W.heap.size #[x.K,.slice p' x.runs.length cps,x.A,x.R,x.n,x.d,.slice q' x.raw.length vc,x.E] 135<|Bz) ?_
  clear b1
  rintro hW z23 ⟨⟨b1,yb1,k1,f1⟩,⟨b2,yb2,k2,f2⟩,-⟩
  obtain⟨pb,pq,rfl,-⟩:=hI.at' _ _ tz.out
  have hV1:=hW0.trans (hW.mono hz)
  have hO:=hown.below hW
  clear hown hW c1
  have zz:=hV1.size
  have hlo:=fun g e=>hO.own.lt g e
  go_wp2_with (at_builtin;refine Hn rfl (.tmp 15) (.tmp 18) 133 rfl w.heap.size 2 i0 (.int .i64 0) 1 8 (by kernel_rfl) hi hz0 hz1 hz2 rfl (by decide) _ _ _ rfl hO.own ⟨pb,pq,none⟩ (n+1) kT ((Ae x.runs).map (Value.int .i64)) rfl (by rw[List.length_map,hn.out,Nat.mul_one]) (fun j u hu=>ints_flat9 hI j u hu) (fun u hu=>ints_one9 u hu) (by simp only[maxLen];omega) (by omega) (by omega) ?_)
  intro v' w9 hown2 hgr _
  have hB:=Hd (P3 hV1 (by omega) hgr (fun g e=>(hlo g e).1))
  have d1:=b1.grown0 hO.own (by decide) hgr
  replace hown2:=Hd hown2
  clear hgr hO hlo b1 b2 hI k1 f1 k2 f2
  go_wp2
  rw[show (k:Int)+1=((k+1:Nat):Int) by omega]
  refine⟨?_,by simp[Ag];omega⟩
  unfold Q4
  exact⟨hB.out,d1,k+1,v',Ac rfl,⟨Ld hown2.out (by rw[hst.out,List.length_append,hn.out];first|done|simp[List.length_flatMap]) (by rw[hst.out,List.map_append])⟩,by omega⟩
 ·obtain rfl:k=s.segs.length:=by omega
  rw[List.take_length] at hown hl9
  have k1:=b1.cell
  have f1:=b1.frozen
  go_wp2
  refine wp_loop (Q3 w s ps cs po co) (fun a' _=>s.opn.length-(Ag (a'.tmps.getD 24 undef)).toNat) ?_ ?_
  ·unfold Q3
   exact⟨hW0,b1,0,_,Ac rfl,by simpa using hown,by omega⟩
  clear b1 k1 f1 hown hW0 hz zb1
  rintro a' W ⟨hW0,b1,k,v,⟨u,rfl⟩,hown,hk⟩
  have hz:=hW0.size
  have zb1:=b1.lt
  have hll:((s.segs.flatMap fun x:Aw=>Ae x.runs)++(s.opn.take k).map (·.1)).length<=25700:=by rw[List.length_append,List.length_map,List.length_take];omega
  rcases Nat.lt_or_ge k s.opn.length with hlk|hge
  ·obtain⟨⟨t,y⟩,tm⟩:∃r,s.opn[k]? =some r:=⟨s.opn[k]'(by omega),List.getElem?_eq_getElem (by omega)⟩
   obtain⟨bo,oo,rfl,q0,q1⟩:=(hin.below hW0).opn.at' k _ tm
   simp only at q0 q1
   have zc:=Ap q0
   try simp only at zc
   have hst:=Hd (show (s.opn.take (k+1)).map (·.1)=(s.opn.take k).map (·.1)++ [t] by rw[List.take_add_one,tm];simp)
   clear tm
   have k1:=b1.cell
   have f1:=b1.frozen
   go_upto_region 10 with(fail)
   clear k1 f1
   refine Ab W (Bc w.heap.size #[.string s.name,s.eps,s.floor,s.last,s.scale,.slice ps s.segs.length cs,.slice (some ⟨bo,oo,none⟩) s.opn.length co] 79<|Bc W.heap.size #[t,y] 58<|Bz) ?_
   clear b1
   rintro W21 hW z22 ⟨⟨b1,yb1,k1,f1⟩,⟨b2,yb2,k2,f2⟩,-⟩
   have hV1:=hW0.trans (hW.mono hz)
   have hO:=hown.below hW
   clear hown hW
   have zz:=hV1.size
   go_wp2_with (at_builtin;refine wpList_append_own _ rfl (.tmp 28) (.tmp 31) 133 rfl w.heap.size 2 i0 (.int .i64 0) 1 8 (by kernel_rfl) hi hz0 hz1 hz2 rfl (by decide) _ _ _ rfl (hO.own.alloc _) ⟨W21.heap.size,0,none⟩ 1 1 [t] rfl rfl (cell_one_new _ _ _) (by simp[Value.oneCell']) (by simp only[maxLen];omega) (by omega) (by simp;omega) ?_)
   intro v' w9 hown2 hgr _
   have hB:=Hd (A7 hV1 zz hO.own hgr)
   have d1:=b1.grown hO.own (by decide) hgr
   replace hown2:=Hd hown2
   clear hgr hO b1 b2 k1 f1 k2 f2
   go_wp2
   rw[show (k:Int)+1=((k+1:Nat):Int) by omega]
   refine⟨?_,by simp[Ag];omega⟩
   unfold Q3
   exact⟨hB.out,d1,k+1,v',Ac rfl,⟨Ld hown2.out (by rw[hst.out];simp;omega) (by rw[hst.out];simp)⟩,by omega⟩
  ·obtain rfl:k=s.opn.length:=by omega
   rw[List.take_length] at hown
   have hown':Bj W w.heap.size 2 1 v (Cd s).length ((Cd s).map (Value.int .i64)):=hown
   obtain⟨p,c,rfl,-⟩:=hown'.form
   have k1:=b1.cell
   have f1:=b1.frozen
   clear hown hll
   go_wp2
   refine bodyPost_ret (v:= .slice p (Cd s).length c) (by simp[results,Tryz.results133,go_sem]) rfl ⟨p,c,rfl,hown'.ints,hW0⟩
def Qp (w:World) (s:A8) (ps:Option Addr) (cs:Nat) (po:Option Addr) (co:Nat) (T:List Int) (p:Option Addr) (c:Nat) (a':Act) (W:World):Prop:=
 Below w.heap.size w W/\Blk W w.heap.size #[.string s.name,s.eps,s.floor,s.last,s.scale,.slice ps s.segs.length cs,.slice po s.opn.length co] 79/\A3 W p T/\∃k:Nat,(∃u:Nat->Value,a'= {tmps:= #[.agg #[.string s.name,s.eps,s.floor,s.last,s.scale,.slice ps s.segs.length cs,.slice po s.opn.length co],.pointer (some ⟨w.heap.size,0,none⟩),u 2,.int .i64 (Hu s.floor (T.take k):Int),u 4,u 5,u 6,.slice p T.length c,.int .i64 (T.length:Int),.int .i64 (k:Int),u 10,u 11,u 12,u 13,u 14,u 15,u 16,u 17,u 18,u 19,u 20],defers:= []})/\k<=T.length
theorem c_r24Kept (s:A8) (ps:Option Addr) (cs:Nat) (po:Option Addr) (co:Nat) (w:World) (hin:Dj w s ps po) (hv:∀x,x∈s.segs->Cr x=true):
  Cb 134 #[.agg (Dy s ps cs po co)] w (.int .i64 (Ht s)):=by
 have c1:=Hd (fun W (hW:Below w.heap.size w W)=>So s ps cs po co W (hin.below hW) hv)
 have hT9:=Lu hin hv
 obtain⟨T,hT⟩:∃T,Cd s=T:=⟨_,rfl⟩
 have hR:=Hd (show Ht s=Hu s.floor T by rw[<-hT];rfl)
 rw[hT] at hT9 c1
 clear hT
 unfold Dy at c1⊢
 go_enter Tryz.func134,Tryz.ntmps134
 go_wp2_with fail
 refine(c1.out _ Aa).mono ?_
 rintro e w1 ⟨p,c,rfl,hI,hb1⟩
 have z2:=hb1.size
 try simp at z2
 refine Aj w w1 (Bc w.heap.size #[.string s.name,s.eps,s.floor,s.last,s.scale,.slice ps s.segs.length cs,.slice po s.opn.length co] 79<|Bz) ?_
 rintro hW z3 ⟨⟨b1,yb1,k1,f1⟩,-⟩
 clear c1
 go_wp2
 refine wp_loop (Qp w s ps cs po co T p c) (fun a' _=>T.length-(Ag (a'.tmps.getD 9 undef)).toNat) ?_ ?_
 ·unfold Qp
  exact⟨hW,b1,hI,0,Ac rfl,Nat.zero_le _⟩
 rintro a' W ⟨hW0,b1,hI,k,⟨u,rfl⟩,hk⟩
 have hz:=hW0.size
 have zb1:=b1.lt
 have hq:=Y9 s.floor (T.take k)
 rw[List.length_take] at hq
 rcases Nat.lt_or_ge k T.length with hlk|hge
 ·obtain⟨t,tr⟩:∃r,T[k]? =some r:=⟨T[k]'(by omega),List.getElem?_eq_getElem (by omega)⟩
  obtain⟨bo,oo,rfl,q0⟩:=hI.at' k _ tr
  have e1:T.take (k+1)=T.take k++ [t]:=by rw[List.take_add_one,tr];rfl
  by_cases hf:s.floor<=t
  ·have hst:=Hd (show Hu s.floor (T.take (k+1))=Hu s.floor (T.take k)+1 by rw[e1,Za _ hf])
   clear tr e1
   have k1:=b1.cell
   have f1:=b1.frozen
   go_wp2
   rw[show (k:Int)+1=((k+1:Nat):Int) by omega]
   refine⟨?_,by simp[Ag];omega⟩
   unfold Qp
   exact⟨hW0,b1,hI,k+1,by rw[hst.out];exact Ac rfl,by omega⟩
  ·have hst:=Hd (show Hu s.floor (T.take (k+1))=Hu s.floor (T.take k) by rw[e1,Uz _ hf])
   clear tr e1
   have k1:=b1.cell
   have f1:=b1.frozen
   go_wp2
   rw[show (k:Int)+1=((k+1:Nat):Int) by omega]
   refine⟨?_,by simp[Ag];omega⟩
   unfold Qp
   exact⟨hW0,b1,hI,k+1,by rw[hst.out];exact Ac rfl,by omega⟩
 ·obtain rfl:k=T.length:=by omega
  rw[List.take_length] at hq
  have k1:=b1.cell
  have f1:=b1.frozen
  go_wp2
  refine bodyPost_ret (v:= .int .i64 (Hu s.floor T:Int)) (by simp[results,Tryz.results134,go_sem]) rfl ⟨by rw[hR.out],hW0⟩
attribute [local simp] Oper.looksAt Op.operands Call.operands Af Det Am
structure Ck (w:World) (b o:Nat) (cs:Array Value):Prop where
 at':∀(j:Nat) (v:Value),cs[j]? =some v->w.cell? ⟨b,o+j,none⟩=some v
theorem Ck.below {w w':World} {b o:Nat} {cs:Array Value} (h:Ck w b o cs) (hb:Below w.heap.size w w'):Ck w' b o cs:=⟨fun j v hv=>by
 have h1:=h.at' j v hv
 exact((Dc hb).1 b _ (Ap h1)).trans h1⟩
theorem Ck.rex {L:List Nat} {w w':World} {b o:Nat} {cs:Array Value} (h:Ck w b o cs) (hr:Rex L w w') (hL:L= []):Ck w' b o cs:=by subst hL;exact h.below hr.below
theorem Ck.drew {w:World} {b o:Nat} {cs:Array Value} (h:Ck w b o cs):Ck w.drew b o cs:=⟨h.at'⟩
def V9 (w:World) (p:Option Addr) (cap:Nat) (l:List Aw) (a':Act) (W:World):Prop:=
 Below w.heap.size w W/\∃i:Nat,(∃u:Nat->Value,a'= {tmps:= #[.slice p l.length cap,u 1,u 2,u 3,u 4,.slice p l.length cap,.int .i64 (l.length:Int),.int .i64 (i:Int),u 8,u 9,u 10,u 11,u 12,u 13,u 14,u 15,u 16,u 17,u 18,u 19,u 20,u 21,u 22,u 23,u 24,u 25,u 26,u 27,u 28,u 29],defers:= []})/\Es (-1) (l.take i)=true/\i<=l.length
theorem rowB_cut {b:Int} {l:List Aw} (i:Nat) (h:Es b (l.take i)=false):Es b l=false:=by
 have key:∀(m:List Aw) (b:Int) (r:List Aw),Es b m=false->Es b (m++r)=false:=by
  intro m
  induction m with
  |nil=>intro b r h;simp[Es] at h
  |cons y m ih=>
   intro b r h
   simp only[List.cons_append,Es] at h⊢
   cases h1:Cr y with
   |false=>rfl
   |true=>
    rw[h1,Bool.true_and] at h
    rw[Bool.true_and]
    cases h2:decide (b<Bv y.runs) with
    |false=>rfl
    |true=>rw[h2,Bool.true_and] at h;rw[Bool.true_and];exact ih _ r h
 have:=key _ b (l.drop i) h
 rwa [List.take_append_drop] at this
theorem c_r14Right (l:List Aw) (p:Option Addr) (cap:Nat) (w:World) (h:Kn w p l) (hl:l.length<=100):
  Cb 131 #[.slice p l.length cap] w (.bool (Es (-1) l)):=by
 go_enter Tryz.func131,Tryz.ntmps131
 go_wp2
 refine wp_loop (V9 w p cap l) (fun a' _=>l.length-(Ag (a'.tmps.getD 7 undef)).toNat) ?_ ?_
 ·unfold V9
  exact⟨Below.refl _ _,0,Ac rfl,rfl,by omega⟩
 rintro a' W ⟨hW0,i,⟨u,rfl⟩,hrow,hi⟩
 have hz:=hW0.size
 rcases Nat.lt_or_ge i l.length with hlt|hge
 ·obtain⟨x,tr⟩:∃r,l[i]? =some r:=⟨l[i]'(by omega),List.getElem?_eq_getElem (by omega)⟩
  obtain⟨b,o,p',q',cps,vc,rfl,hs,hvc,q0,q1,q2,q3,q4,q5,q6,q7⟩:=(h.below hW0).one tr
  have e1:l.take (i+1)=l.take i++ [x]:=by rw[List.take_add_one,tr];rfl
  have hst:Es (-1) (l.take (i+1))=(Cr x&&decide (((l.take i).getLast?.map fun y=>C8 y.runs).getD (-1)<Bv x.runs)):=by rw[e1,Uj,hrow,Bool.true_and]
  obtain⟨z,hz0⟩:∃z,((l.take i).getLast?.map fun y=>C8 y.runs).getD (-1)=z:=⟨_,rfl⟩
  rw[hz0] at hst
  have c1:=fun W' (hW':Below W.heap.size W W')=>c_refRight x p' q' cps vc W' (hs.below hW')
  unfold C9 at c1
  have zc:=Ap q0
  try simp only at zc
  obtain⟨F,hF⟩:∃F,Es (-1) (l.take (i+1))=F:=⟨_,rfl⟩
  have hno:F=false->Es (-1) l=false:=fun e=>rowB_cut (i+1) (hF.trans e)
  replace hno:=Hd hno
  obtain⟨B,hB⟩:∃B,Cr x=B:=⟨_,rfl⟩
  rw[hB] at c1 hst
  replace c1:=Hd c1
  by_cases h0:i=0
  ·have E0:=Hd (show decide (0<i)=false from decide_eq_false (by omega))
   obtain rfl: -1=z:=by rw[<-hz0,h0];rfl
   have hv:=Hd (show (!B||false)= !F by
    rw[<-hF,hst]
    cases B with
    |false=>rfl
    |true=>
     have:=Sa (Bp hB)
     rw[decide_eq_true (show-1<Bv x.runs by omega)]
     rfl)
   replace h0:=Hd h0
   replace hF:=Hd hF
   clear tr e1 hz0 hst hs
   go_upto_region 4 with(fail)
   refine Ab W (Bc W.heap.size #[x.K,.slice p' x.runs.length cps,x.A,x.R,x.n,x.d,.slice q' x.raw.length vc,x.E] 135<|Bz) ?_
   rintro W21 hW z22 hL
   obtain⟨⟨b1,yb1,k1,f1⟩,-⟩:=id hL
   clear k1 f1
   refine Bw 17 30 hW hL ?_
   refine dE (fun W' hC=>E0.out) ?_
   refine cE (fun W' hC=>E0.out) (fun W' hC=>c1.out W' (hW.trans (hC.1.of_priv hW.size))) ?_
   iterate 2 refine dE (fun W' hC=>E0.out) ?_
   iterate 3 refine gE (fun W' hC=>E0.out) ?_
   iterate 9
    first
    |(
     apply Ai (c:=undef) (hg:=rfl) (hd:=rfl) (hal:=rfl)
     ·intro v W' h
      exact h
     ·intro hp hx
      cases hx)
    |(
     apply Dp (p:=true) (x:=false) (y:=false) (ho:=rfl) (hg:=rfl) (hd:=rfl)
     ·intro v W' h
      simp[Af,Det,Am] at h
      simp
      exact h
     ·intro _ hx v W' h
      simp[hx] at h
      exact h
     ·intro _ hx v W' h hy
      cases hy)
   refine pO ?_
   clear hW hL b1
   rintro W23 hW z24 hL
   simp only[ndR]
   intros
   repeat (rename Am _ _ _ _=>hgd;clear hgd)
   simp only[ndS]
   refine wpList_nil ?_
   obtain⟨⟨b1,yb1,k1,f1⟩,-⟩:=hL
   rw[hv.out]
   cases F with
   |false=>
    go_wp2
    go_ret
    exact⟨by rw[hno.out (by trivial)];rfl,by exact Aa⟩
   |true=>
    go_wp2
    rw[show (i:Int)+1=((i+1:Nat):Int) by omega]
    refine⟨?_,by simp[Ag];omega⟩
    unfold V9
    exact⟨hW0.trans (hW.mono hz),i+1,Ac rfl,hF.out,by omega⟩
  ·obtain⟨j,hj⟩:∃j,i=j+1:=⟨i-1,by omega⟩
   obtain⟨y,ty⟩:∃r,l[j]? =some r:=⟨l[j]'(by omega),List.getElem?_eq_getElem (by omega)⟩
   obtain⟨b',o',p2,q2,cp2,vc2,eb,hy0,gy,-⟩:=(h.below hW0).at' j y ty
   obtain⟨rfl,rfl⟩:b=b'/\o=o':=by injection eb with e;injection e with e1 e2;exact⟨e1,e2⟩
   have E0:=Hd (show decide (0<i)=true from decide_eq_true (by omega))
   have E1:=Hd (show wrap64 ((i:Int)-1)=(j:Int) by rw[Ak];omega)
   have g1:j<l.length:=by omega
   have hlast:(l.take i).getLast? =some y:=by rw[hj,List.take_add_one,ty];simp
   obtain rfl:C8 y.runs=z:=by rw[<-hz0,hlast];rfl
   have hyB:Cr y=true:=K9 hrow y (List.mem_iff_getElem?.2 ⟨j,by rw[List.getElem?_take];simp[ty];omega⟩)
   obtain⟨B2,hB2⟩:∃B,decide (C8 y.runs<Bv x.runs)=B:=⟨_,rfl⟩
   have c2:=fun(e:B=true) W' (hW':Below W.heap.size W W')=>Zy y x p2 q2 p' q' cp2 vc2 cps vc W' (gy.below hW') hyB (hs.below hW') (hB.trans e)
   rw[hB2] at hst c2
   unfold C9 at c2 hy0
   replace c2:=Hd c2
   have hv:=Hd (show (!B|| !B2)= !F by rw[<-hF,hst];cases B<;>cases B2<;>rfl)
   replace hF:=Hd hF
   replace hj:=Hd hj
   clear tr ty e1 hst hs eb gy hyB hlast hB hB2 hz0
   go_upto_region 4 with(fail)
   refine Ab W (Bc W.heap.size #[x.K,.slice p' x.runs.length cps,x.A,x.R,x.n,x.d,.slice q' x.raw.length vc,x.E] 135<|Rc (fun W'=>Ck W' b (o+j*8) #[y.K,.slice p2 y.runs.length cp2,y.A,y.R,y.n,y.d,.slice q2 y.raw.length vc2,y.E])<|Bz) ?_ (hI:=by exact Aa) (hR:=(Bc.mk (by exact Ad)<|Rc.mk (by first|exact⟨hy0⟩|(exact(Ck.mk hy0).below Aa))<|trivial))
   rintro W21 hW z22 hL
   obtain⟨⟨b1,yb1,k1,f1⟩,b2,-⟩:=id hL
   clear k1 f1
   refine Bw 17 30 hW hL ?_
   refine dE (fun W' hC=>aI E0.out (aI E1.out (aI g1 (aI (Nat.not_le.2 g1) (aI (hC.2.2.1.at' 0 _ rfl) (aI (hC.2.2.1.at' 1 _ rfl) (aI (hC.2.2.1.at' 2 _ rfl) (aI (hC.2.2.1.at' 3 _ rfl) (aI (hC.2.2.1.at' 4 _ rfl) (aI (hC.2.2.1.at' 5 _ rfl) (aI (hC.2.2.1.at' 6 _ rfl) (hC.2.2.1.at' 7 _ rfl)))))))))))) ?_
   refine cE (fun W' hC=>aI E0.out (aI E1.out (aI g1 (aI (Nat.not_le.2 g1) (aI (hC.2.2.1.at' 0 _ rfl) (aI (hC.2.2.1.at' 1 _ rfl) (aI (hC.2.2.1.at' 2 _ rfl) (aI (hC.2.2.1.at' 3 _ rfl) (aI (hC.2.2.1.at' 4 _ rfl) (aI (hC.2.2.1.at' 5 _ rfl) (aI (hC.2.2.1.at' 6 _ rfl) (hC.2.2.1.at' 7 _ rfl)))))))))))) (fun W' hC=>c1.out W' (hW.trans (hC.1.of_priv hW.size))) ?_
   iterate 2 refine dE (fun W' hC=>aI E0.out (aI E1.out (aI g1 (aI (Nat.not_le.2 g1) (aI (hC.2.2.1.at' 0 _ rfl) (aI (hC.2.2.1.at' 1 _ rfl) (aI (hC.2.2.1.at' 2 _ rfl) (aI (hC.2.2.1.at' 3 _ rfl) (aI (hC.2.2.1.at' 4 _ rfl) (aI (hC.2.2.1.at' 5 _ rfl) (aI (hC.2.2.1.at' 6 _ rfl) (hC.2.2.1.at' 7 _ rfl)))))))))))) ?_
   iterate 3 refine gE (fun W' hC=>aI E0.out (aI E1.out (aI g1 (aI (Nat.not_le.2 g1) (aI (hC.2.2.1.at' 0 _ rfl) (aI (hC.2.2.1.at' 1 _ rfl) (aI (hC.2.2.1.at' 2 _ rfl) (aI (hC.2.2.1.at' 3 _ rfl) (aI (hC.2.2.1.at' 4 _ rfl) (aI (hC.2.2.1.at' 5 _ rfl) (aI (hC.2.2.1.at' 6 _ rfl) (hC.2.2.1.at' 7 _ rfl)))))))))))) ?_
   iterate 6 refine gF (fun W' hC=>aI E0.out (aI E1.out (aI g1 (aI (Nat.not_le.2 g1) (aI (hC.2.2.1.at' 0 _ rfl) (aI (hC.2.2.1.at' 1 _ rfl) (aI (hC.2.2.1.at' 2 _ rfl) (aI (hC.2.2.1.at' 3 _ rfl) (aI (hC.2.2.1.at' 4 _ rfl) (aI (hC.2.2.1.at' 5 _ rfl) (aI (hC.2.2.1.at' 6 _ rfl) (hC.2.2.1.at' 7 _ rfl)))))))))))) ?_
   apply Bu (p:=_) (hg:=rfl) (hd:=rfl) (hal:=rfl)
   ·intro v W' h
    first
     |exact h
     |(simp[Af,Am] at h;simp;exact h)
   ·intro hp hx W' hC
    exact c2.out (by simpa using hp) W' (hW.trans (hC.1.of_priv hW.size))
   ·intro hp hx a W' hC hE
    obtain⟨_,⟨-,-,k1,-⟩,k2,-⟩:=hC
    have t0:=k2.at' 0 _ rfl;have t1:=k2.at' 1 _ rfl;have t2:=k2.at' 2 _ rfl;have t3:=k2.at' 3 _ rfl;have t4:=k2.at' 4 _ rfl;have t5:=k2.at' 5 _ rfl;have t6:=k2.at' 6 _ rfl;have t7:=k2.at' 7 _ rfl;simp only[Nat.add_zero] at t0
    try simp at hp
    try simp at hx
    first
     |(simp[hp,hx] at hE;simp[go_sem,Act.eval,iw,hE,k1,k2,E0.out,E1.out,g1,Nat.not_le.2 g1,t0,t1,t2,t3,t4,t5,t6,t7];try rfl)
     |(clear hE;simp[go_sem,Act.eval,iw,k1,k2,E0.out,E1.out,g1,Nat.not_le.2 g1,t0,t1,t2,t3,t4,t5,t6,t7];try rfl)
   refine gF (fun W' hC=>aI E0.out (aI E1.out (aI g1 (aI (Nat.not_le.2 g1) (aI (hC.2.2.1.at' 0 _ rfl) (aI (hC.2.2.1.at' 1 _ rfl) (aI (hC.2.2.1.at' 2 _ rfl) (aI (hC.2.2.1.at' 3 _ rfl) (aI (hC.2.2.1.at' 4 _ rfl) (aI (hC.2.2.1.at' 5 _ rfl) (aI (hC.2.2.1.at' 6 _ rfl) (hC.2.2.1.at' 7 _ rfl)))))))))))) ?_
   refine pgA ?_
   refine pO ?_
   clear hW hL b1 b2
   rintro W23 hW z24 hL
   simp only[ndR]
   intros
   repeat (rename Am _ _ _ _=>hgd;clear hgd)
   simp only[ndS]
   refine wpList_nil ?_
   obtain⟨⟨b1,yb1,k1,f1⟩,b2,-⟩:=hL
   rw[hv.out]
   cases F with
   |false=>
    go_wp2
    go_ret
    exact⟨by rw[hno.out (by trivial)];rfl,by exact Aa⟩
   |true=>
    go_wp2
    rw[show (i:Int)+1=((i+1:Nat):Int) by omega]
    refine⟨?_,by simp[Ag];omega⟩
    unfold V9
    exact⟨hW0.trans (hW.mono hz),i+1,Ac rfl,hF.out,by omega⟩
 ·obtain rfl:i=l.length:=by omega
  rw[List.take_length] at hrow
  replace hrow:=Hd hrow
  go_wp2
  go_ret
  exact⟨by rw[hrow.out];rfl,hW0⟩
def V8 (w:World) (s:A8) (ps:Option Addr) (cs:Nat) (po:Option Addr) (co:Nat) (a':Act) (W:World):Prop:=
 Below w.heap.size w W/\Blk W w.heap.size #[.string s.name,s.eps,s.floor,s.last,s.scale,.slice ps s.segs.length cs,.slice po s.opn.length co] 79/\∃i:Nat,(∃u:Nat->Value,a'= {tmps:= #[u 0,.pointer (some ⟨w.heap.size,0,none⟩),u 2,u 3,u 4,u 5,u 6,u 7,u 8,u 9,u 10,u 11,u 12,u 13,u 14,u 15,u 16,u 17,u 18,u 19,u 20,u 21,u 22,u 23,u 24,u 25,u 26,u 27,u 28,u 29,u 30,u 31,u 32,u 33,u 34,u 35,u 36,u 37,u 38,u 39,u 40,u 41,u 42,u 43,u 44,u 45,u 46,u 47,u 48,u 49,u 50,u 51,.slice ps s.segs.length cs,.int .i64 (s.segs.length:Int),.int .i64 (i:Int),u 55,u 56,u 57,u 58,u 59,u 60,u 61,u 62,u 63,u 64,u 65,u 66,u 67,u 68,u 69,u 70,u 71,u 72,u 73,u 74,u 75,u 76,u 77,u 78,u 79,u 80,u 81,u 82,u 83,u 84,u 85,u 86,u 87,u 88,u 89,u 90,u 91,u 92,u 93,u 94,u 95,u 96,u 97,u 98,u 99,u 100,u 101,u 102,u 103,u 104,u 105,u 106,u 107,u 108,u 109,u 110,u 111,u 112,u 113,u 114,u 115,u 116,u 117,u 118,u 119,u 120,u 121,u 122,u 123,u 124,u 125,u 126,u 127,u 128,u 129],defers:= []})/\(s.segs.take i).all (Jl s.eps s.floor)=true/\i<=s.segs.length
def V7 (w:World) (s:A8) (ps:Option Addr) (cs:Nat) (po:Option Addr) (co:Nat) (a':Act) (W:World):Prop:=
 Below w.heap.size w W/\Blk W w.heap.size #[.string s.name,s.eps,s.floor,s.last,s.scale,.slice ps s.segs.length cs,.slice po s.opn.length co] 79/\∃i:Nat,(∃u:Nat->Value,a'= {tmps:= #[u 0,.pointer (some ⟨w.heap.size,0,none⟩),u 2,u 3,u 4,u 5,u 6,u 7,u 8,u 9,u 10,u 11,u 12,u 13,u 14,u 15,u 16,u 17,u 18,u 19,u 20,u 21,u 22,u 23,u 24,u 25,u 26,u 27,u 28,u 29,u 30,u 31,u 32,u 33,u 34,u 35,u 36,u 37,u 38,u 39,u 40,u 41,u 42,u 43,u 44,u 45,u 46,u 47,u 48,u 49,u 50,u 51,u 52,u 53,u 54,u 55,u 56,u 57,u 58,u 59,u 60,u 61,u 62,u 63,u 64,u 65,u 66,u 67,u 68,u 69,u 70,u 71,.slice po s.opn.length co,.int .i64 (s.opn.length:Int),.int .i64 (i:Int),u 75,u 76,u 77,u 78,u 79,u 80,u 81,u 82,u 83,u 84,u 85,u 86,u 87,u 88,u 89,u 90,u 91,u 92,u 93,u 94,u 95,u 96,u 97,u 98,u 99,u 100,u 101,u 102,u 103,u 104,u 105,u 106,u 107,u 108,u 109,u 110,u 111,u 112,u 113,u 114,u 115,u 116,u 117,u 118,u 119,u 120,u 121,u 122,u 123,u 124,u 125,u 126,u 127,u 128,u 129],defers:= []})/\(s.opn.take i).all (Gl s.floor)=true/\i<=s.opn.length
def Qm (w:World) (s:A8) (ps:Option Addr) (cs:Nat) (po:Option Addr) (co:Nat) (T:List Int) (p:Option Addr) (c:Nat) (a':Act) (W:World):Prop:=
 Below w.heap.size w W/\Blk W w.heap.size #[.string s.name,s.eps,s.floor,s.last,s.scale,.slice ps s.segs.length cs,.slice po s.opn.length co] 79/\A3 W p T/\∃i:Nat,(∃u:Nat->Value,a'= {tmps:= #[u 0,.pointer (some ⟨w.heap.size,0,none⟩),u 2,u 3,u 4,u 5,u 6,.slice p T.length c,u 8,u 9,u 10,u 11,u 12,u 13,u 14,u 15,u 16,u 17,u 18,u 19,u 20,u 21,u 22,u 23,u 24,u 25,u 26,u 27,u 28,u 29,u 30,u 31,u 32,u 33,u 34,u 35,u 36,u 37,u 38,u 39,u 40,u 41,u 42,u 43,u 44,u 45,u 46,u 47,u 48,u 49,u 50,u 51,u 52,u 53,u 54,u 55,u 56,u 57,u 58,u 59,u 60,u 61,u 62,u 63,u 64,u 65,u 66,u 67,u 68,u 69,u 70,u 71,u 72,u 73,u 74,u 75,u 76,u 77,u 78,u 79,u 80,u 81,u 82,u 83,u 84,u 85,u 86,u 87,u 88,u 89,u 90,u 91,.int .i64 (T.length:Int),.int .i64 (i:Int),u 94,u 95,u 96,u 97,u 98,u 99,u 100,u 101,u 102,u 103,u 104,u 105,u 106,u 107,u 108,u 109,u 110,u 111,u 112,u 113,u 114,u 115,u 116,u 117,u 118,u 119,u 120,u 121,u 122,u 123,u 124,u 125,u 126,u 127,u 128,u 129],defers:= []})/\Er (-1) (T.take i)=true/\i<=T.length/\(i=T.length->(decide (Cs (-1) T<0)||(s.last==Cs (-1) T))=true)
theorem all_cut {α:Type} (p:α->Bool) (l:List α) (i:Nat) (h:(l.take i).all p=false):l.all p=false:=by
 rw[<-List.take_append_drop i l,List.all_append,h,Bool.false_and]
theorem rise_cut {b:Int} {l:List Int} (i:Nat) (h:Er b (l.take i)=false):Er b l=false:=Nx (List.take_prefix i l) b h
theorem c_r24Right (s:A8) (ps:Option Addr) (cs:Nat) (po:Option Addr) (co:Nat) (w:World) (hin:Dj w s ps po) (hnm:s.name.size<=1000):
  Cb 84 #[.agg (Dy s ps cs po co)] w (.bool (B8 s)):=by
 have hfS:=hin.fewS
 have hfO:=hin.fewO
 unfold Dy
 have hnum:Le s=(Fq s.name&&btw s.eps 0 1099511627776&&btw s.scale (-40) 40&&btw s.floor 0 281474976710656&&btw s.last (-1) 281474976710656):=by unfold Le;simp[Bool.and_assoc]
 obtain⟨N1,hN1⟩:∃b,Fq s.name=b:=⟨_,rfl⟩
 obtain⟨N2,hN2⟩:∃b,btw s.eps 0 1099511627776=b:=⟨_,rfl⟩
 obtain⟨N3,hN3⟩:∃b,btw s.scale (-40) 40=b:=⟨_,rfl⟩
 obtain⟨N4,hN4⟩:∃b,btw s.floor 0 281474976710656=b:=⟨_,rfl⟩
 rw[hN1,hN2,hN3,hN4] at hnum
 have hv:=Hd (show (!N1|| !N2|| !N3|| !N4||decide (s.last< -1)||decide (281474976710656<s.last))= !Le s by
  rw[hnum]
  unfold btw
  have h1:decide (s.last< -1)= !decide (-1<=s.last):=by rw[Bool.eq_iff_iff];simp
  have h2:decide (281474976710656<s.last)= !decide (s.last<=281474976710656):=by rw[Bool.eq_iff_iff];simp
  rw[h1,h2]
  cases N1<;>cases N2<;>cases N3<;>cases N4<;>simp[Bool.not_and])
 replace hnum:=Hd hnum
 have hno0:=Hd (fun(e:Le s=false)=>(show B8 s=false by unfold B8;rw[e,Bool.false_and]))
 obtain⟨N,hN⟩:∃b,Le s=b:=⟨_,rfl⟩
 rw[hN] at hv
 obtain⟨RW,hRW⟩:∃b,Es (-1) s.segs=b:=⟨_,rfl⟩
 replace hN1:=Hd hN1
 replace hN2:=Hd hN2
 replace hN3:=Hd hN3
 replace hN4:=Hd hN4
 replace hN:=Hd hN
 replace hRW:=Hd hRW
 go_enter Tryz.func84,Tryz.ntmps84
 go_upto_region 1 with(fail)
 refine Ab w (Bc w.heap.size #[.string s.name,s.eps,s.floor,s.last,s.scale,.slice ps s.segs.length cs,.slice po s.opn.length co] 79<|Bz) ?_
 rintro W1 hW z2 hL
 refine Bg 32 130 hW hL ?_
 iterate 2 refine dE (fun W' hC=>aI hN1.out (aI hN2.out (aI hN3.out hN4.out))) ?_
 refine cE (fun W' hC=>aI hN1.out (aI hN2.out (aI hN3.out hN4.out))) (fun W' hC=>Vf s.name W' hnm) ?_
 iterate 2 refine dE (fun W' hC=>aI hN1.out (aI hN2.out (aI hN3.out hN4.out))) ?_
 iterate 2 refine gE (fun W' hC=>aI hN1.out (aI hN2.out (aI hN3.out hN4.out))) ?_
 apply Bu (p:=true) (hg:=rfl) (hd:=rfl) (hal:=rfl)
 ·intro v W' h
  simp at h
  simp
  exact h
 ·intro hp hx W' hC
  exact Zz s.eps W'
 ·intro hp hx a W' hC hE
  obtain⟨_,⟨-,-,k1,-⟩,-⟩:=hC
  first
   |(simp[hx] at hE;simp[go_sem,Act.eval,iw,hE,k1,hN1.out,hN2.out,hN3.out,hN4.out];try rfl)
   |(clear hE;simp[go_sem,Act.eval,iw,k1,hN1.out,hN2.out,hN3.out,hN4.out];try rfl)
 refine gE (fun W' hC=>aI hN1.out (aI hN2.out (aI hN3.out hN4.out))) ?_
 refine pO ?_
 refine dE (fun W' hC=>aI hN1.out (aI hN2.out (aI hN3.out hN4.out))) ?_
 iterate 2 refine gE (fun W' hC=>aI hN1.out (aI hN2.out (aI hN3.out hN4.out))) ?_
 apply Bu (p:=true) (hg:=rfl) (hd:=rfl) (hal:=rfl)
 ·intro v W' h
  simp at h
  simp
  exact h
 ·intro hp hx W' hC
  exact Sq s.scale W'
 ·intro hp hx a W' hC hE
  obtain⟨_,⟨-,-,k1,-⟩,-⟩:=hC
  first
   |(simp[hx] at hE;simp[go_sem,Act.eval,iw,hE,k1,hN1.out,hN2.out,hN3.out,hN4.out];try rfl)
   |(clear hE;simp[go_sem,Act.eval,iw,k1,hN1.out,hN2.out,hN3.out,hN4.out];try rfl)
 refine gE (fun W' hC=>aI hN1.out (aI hN2.out (aI hN3.out hN4.out))) ?_
 refine pO ?_
 refine dE (fun W' hC=>aI hN1.out (aI hN2.out (aI hN3.out hN4.out))) ?_
 iterate 2 refine gE (fun W' hC=>aI hN1.out (aI hN2.out (aI hN3.out hN4.out))) ?_
 apply Bu (p:=true) (hg:=rfl) (hd:=rfl) (hal:=rfl)
 ·intro v W' h
  simp at h
  simp
  exact h
 ·intro hp hx W' hC
  exact Ve s.floor W'
 ·intro hp hx a W' hC hE
  obtain⟨_,⟨-,-,k1,-⟩,-⟩:=hC
  first
   |(simp[hx] at hE;simp[go_sem,Act.eval,iw,hE,k1,hN1.out,hN2.out,hN3.out,hN4.out];try rfl)
   |(clear hE;simp[go_sem,Act.eval,iw,k1,hN1.out,hN2.out,hN3.out,hN4.out];try rfl)
 refine gE (fun W' hC=>aI hN1.out (aI hN2.out (aI hN3.out hN4.out))) ?_
 refine pO ?_
 refine dE (fun W' hC=>aI hN1.out (aI hN2.out (aI hN3.out hN4.out))) ?_
 iterate 3 refine gE (fun W' hC=>aI hN1.out (aI hN2.out (aI hN3.out hN4.out))) ?_
 refine pO ?_
 refine dE (fun W' hC=>aI hN1.out (aI hN2.out (aI hN3.out hN4.out))) ?_
 iterate 3 refine gE (fun W' hC=>aI hN1.out (aI hN2.out (aI hN3.out hN4.out))) ?_
 refine pO ?_
 clear hW hL
 rintro W3 hW z4 hL
 simp only[ndR]
 intros
 repeat (rename Am _ _ _ _=>hgd;clear hgd)
 simp only[ndS]
 refine wpList_nil ?_
 obtain⟨⟨b1,yb1,k1,f1⟩,-⟩:=hL
 rw[hv.out]
 cases N with
 |false=>
  have hno:=Hd (hno0.out hN.out)
  go_wp2
  go_ret
  exact⟨by rw[hno.out];rfl,by exact Aa⟩
 |true=>
  clear hv hno0
  go_upto_region 3 with(fail)
  clear k1 f1
  refine Ab w (Bc w.heap.size #[.string s.name,s.eps,s.floor,s.last,s.scale,.slice ps s.segs.length cs,.slice po s.opn.length co] 79<|Bz) ?_
  clear b1 hW
  rintro W5 hW z6 hL
  refine Bg 10 130 hW hL ?_
  iterate 2 refine dA ?_
  refine cA (fun W' hC=>c_r14Right s.segs ps cs W' ((hin.below (hW.trans (hC.1.of_priv hW.size))).segs) hin.fewS) ?_
  iterate 2 refine dA ?_
  iterate 4 refine gA ?_
  refine pO ?_
  clear hW hL
  rintro W7 hW z8 hL
  simp only[ndR]
  intros
  repeat (rename Am _ _ _ _=>hgd;clear hgd)
  simp only[ndS]
  refine wpList_nil ?_
  obtain⟨⟨b1,yb1,k1,f1⟩,-⟩:=hL
  obtain⟨F2,hF2⟩:∃F,(!Es (-1) s.segs||decide (31<(s.opn.length:Int)))=F:=⟨_,rfl⟩
  rw[hF2]
  cases F2 with
  |true=>
   have hno:=Hd (show B8 s=false by
    unfold B8
    cases h:Es (-1) s.segs with
    |false=>simp
    |true=>
     rw[h] at hF2
     simp at hF2
     have:¬s.opn.length<32:=by omega
     simp[this])
   clear hF2
   go_wp2
   go_ret
   exact⟨by rw[hno.out];rfl,by exact Aa⟩
  |false=>
   have hrow:Es (-1) s.segs=true:=by cases h:Es (-1) s.segs with|true=>rfl|false=>simp[h] at hF2
   have ho9:s.opn.length<32:=by rw[hrow] at hF2;simp at hF2;omega
   have hV:=Hd (K9 hrow)
   have hck:=Hd (show B8 s=(s.segs.all (Jl s.eps s.floor)&&(s.opn.all (Gl s.floor)&&(Er (-1) (Cd s)&&(Ob s&&decide (Ht s<=1024))))) by unfold B8;rw[hN.out,hrow,decide_eq_true ho9];simp)
   have hfl:0<=s.floor:=by
    have h:=hN.out
    unfold Le btw at h
    simp only[Bool.and_eq_true,decide_eq_true_eq] at h
    exact h.2.2.2.1.1
   clear hF2 hrow
   go_wp2
   refine wp_loop (V8 w s ps cs po co) (fun a' _=>s.segs.length-(Ag (a'.tmps.getD 54 undef)).toNat) ?_ ?_
   ·unfold V8
    exact⟨hW,b1,0,Ac rfl,rfl,by omega⟩
   clear b1 hW k1 f1
   rintro a' W ⟨hW0,b1,i,⟨u,rfl⟩,hall,hi⟩
   have hz:=hW0.size
   have zb1:=b1.lt
   rcases Nat.lt_or_ge i s.segs.length with hlt|hge
   ·obtain⟨x,tr⟩:∃r,s.segs[i]? =some r:=⟨s.segs[i]'(by omega),List.getElem?_eq_getElem (by omega)⟩
    have hsx:=hV.out x (List.mem_of_getElem? tr)
    obtain⟨b,o,p',q',cps,vc,rfl,hs,hvc,q0,q1,q2,q3,q4,q5,q6,q7⟩:=(hin.below hW0).segs.one tr
    have c3:=fun W' (hW':Below W.heap.size W W')=>c_r24last x p' q' cps vc W' (hs.below hW') hsx
    unfold C9 at c3
    replace c3:=Hd c3
    have zc:=Ap q0
    try simp only at zc
    obtain⟨F,hF⟩:∃F,Jl s.eps s.floor x=F:=⟨_,rfl⟩
    have hst:(s.segs.take (i+1)).all (Jl s.eps s.floor)=F:=by rw[List.take_add_one,tr,List.all_append,hall];simp[hF]
    have hv:=Hd (show (decide (s.eps<x.E)||decide (C8 x.runs<s.floor))= !F by rw[<-hF];unfold Jl;rw[Bool.eq_iff_iff];simp;try omega)
    have hno:=Hd (fun(e:F=false)=>(show B8 s=false by rw[hck.out,all_cut _ _ _ (hst.trans e),Bool.false_and]))
    replace hst:=Hd hst
    clear tr hs hsx hF hall
    have k1:=b1.cell
    have f1:=b1.frozen
    go_upto_region 8 with(fail)
    clear k1 f1
    refine Ab W (Bc w.heap.size #[.string s.name,s.eps,s.floor,s.last,s.scale,.slice (some ⟨b,o,none⟩) s.segs.length cs,.slice po s.opn.length co] 79<|Bc W.heap.size #[x.K,.slice p' x.runs.length cps,x.A,x.R,x.n,x.d,.slice q' x.raw.length vc,x.E] 135<|Bz) ?_
    clear b1
    rintro W21 hW z22 hL
    refine Dn 12 130 hW hL ?_
    iterate 6 refine dA ?_
    refine gA ?_
    refine cG (fun hp hx W' hC=>c3.out W' (hW.trans (hC.1.of_priv hW.size))) ?_
    iterate 3 refine gA ?_
    refine pO ?_
    clear hW hL
    rintro W23 hW z24 hL
    simp only[ndR]
    intros
    repeat (rename Am _ _ _ _=>hgd;clear hgd)
    simp only[ndS]
    refine wpList_nil ?_
    obtain⟨⟨b1,yb1,k1,f1⟩,⟨b2,yb2,k2,f2⟩,-⟩:=hL
    rw[hv.out]
    cases F with
    |false=>
     go_wp2
     go_ret
     exact⟨by rw[hno.out (by trivial)];rfl,by exact Aa⟩
    |true=>
     go_wp2
     rw[show (i:Int)+1=((i+1:Nat):Int) by omega]
     refine⟨?_,by simp[Ag];omega⟩
     unfold V8
     exact⟨hW0.trans (hW.mono hz),b1,i+1,Ac rfl,hst.out,by omega⟩
   ·obtain rfl:i=s.segs.length:=by omega
    rw[List.take_length] at hall
    replace hck:=Hd (show B8 s=(s.opn.all (Gl s.floor)&&(Er (-1) (Cd s)&&(Ob s&&decide (Ht s<=1024)))) by rw[hck.out,hall,Bool.true_and])
    clear hall
    have k1:=b1.cell
    have f1:=b1.frozen
    go_wp2
    refine wp_loop (V7 w s ps cs po co) (fun a' _=>s.opn.length-(Ag (a'.tmps.getD 74 undef)).toNat) ?_ ?_
    ·unfold V7
     exact⟨hW0,b1,0,Ac rfl,rfl,by omega⟩
    clear b1 hW0 k1 f1 hz zb1
    rintro a' W ⟨hW0,b1,i,⟨u,rfl⟩,hall,hi⟩
    have hz:=hW0.size
    have zb1:=b1.lt
    rcases Nat.lt_or_ge i s.opn.length with hlt|hge
    ·obtain⟨⟨t,y⟩,tr⟩:∃r,s.opn[i]? =some r:=⟨s.opn[i]'(by omega),List.getElem?_eq_getElem (by omega)⟩
     obtain⟨b,o,rfl,q0,q1⟩:=(hin.below hW0).opn.at' i _ tr
     simp only at q0 q1
     have zc:=Ap q0
     try simp only at zc
     obtain⟨F,hF⟩:∃F,Gl s.floor (t,y)=F:=⟨_,rfl⟩
     have hst:(s.opn.take (i+1)).all (Gl s.floor)=F:=by rw[List.take_add_one,tr,List.all_append,hall];simp[hF]
     have hv:=Hd (show (!btw t 0 281474976710656|| !btw y (-2305843009213693952) 2305843009213693952||decide (t<s.floor))= !F by
      rw[<-hF]
      unfold Gl btw
      rw[Bool.eq_iff_iff]
      simp only[Bool.or_eq_true,Bool.not_eq_true',Bool.and_eq_false_iff,decide_eq_true_eq,decide_eq_false_iff_not]
      omega)
     have hno:=Hd (fun(e:F=false)=>(show B8 s=false by rw[hck.out,all_cut _ _ _ (hst.trans e),Bool.false_and]))
     replace hst:=Hd hst
     clear tr hF hall
     have k1:=b1.cell
     have f1:=b1.frozen
     go_upto_region 14 with(fail)
     clear k1 f1
     refine Ab W (Bc w.heap.size #[.string s.name,s.eps,s.floor,s.last,s.scale,.slice ps s.segs.length cs,.slice (some ⟨b,o,none⟩) s.opn.length co] 79<|Bc W.heap.size #[t,y] 58<|Bz) ?_
     clear b1
     rintro W21 hW z22 hL
     refine Bg 10 130 hW hL ?_
     refine dA ?_
     refine cA (fun W' hC=>Sr t y W') ?_
     iterate 2 refine dA ?_
     iterate 5 refine gA ?_
     refine pO ?_
     clear hW hL
     rintro W23 hW z24 hL
     simp only[ndR]
     intros
     repeat (rename Am _ _ _ _=>hgd;clear hgd)
     simp only[ndS]
     refine wpList_nil ?_
     obtain⟨⟨b1,yb1,k1,f1⟩,⟨b2,yb2,k2,f2⟩,-⟩:=hL
     rw[hv.out]
     cases F with
     |false=>
      go_wp2
      go_ret
      exact⟨by rw[hno.out (by trivial)];rfl,by exact Aa⟩
     |true=>
      go_wp2
      rw[show (i:Int)+1=((i+1:Nat):Int) by omega]
      refine⟨?_,by simp[Ag];omega⟩
      unfold V7
      exact⟨hW0.trans (hW.mono hz),b1,i+1,Ac rfl,hst.out,by omega⟩
    ·obtain rfl:i=s.opn.length:=by omega
     rw[List.take_length] at hall
     replace hck:=Hd (show B8 s=(Er (-1) (Cd s)&&(Ob s&&decide (Ht s<=1024))) by rw[hck.out,hall,Bool.true_and])
     have hT0:∀t,t∈Cd s->0<=t:=by
      intro t ht
      rcases List.mem_append.1 ht with ht|ht
      ·obtain⟨x,hx,hm⟩:=List.mem_flatMap.1 ht
       exact(Ju (Bp (hV.out x hx)) hm).2.2.1
      ·obtain⟨q,hq,rfl⟩:=List.mem_map.1 ht
       have h:=List.all_eq_true.1 hall q hq
       unfold Gl btw at h
       simp only[Bool.and_eq_true,decide_eq_true_eq] at h
       omega
     have hT9:=Lu hin hV.out
     have c4:=Hd (fun W (hW:Below w.heap.size w W)=>c_r24Kept s ps cs po co W (hin.below hW) hV.out)
     have c5:=Hd (fun W (hW:Below w.heap.size w W)=>So s ps cs po co W (hin.below hW) hV.out)
     unfold Ob at hck
     obtain⟨T,hT⟩:∃T,Cd s=T:=⟨_,rfl⟩
     rw[hT] at hck hT0 hT9 c5
     obtain⟨KN,hKN⟩:∃k,Ht s=k:=⟨_,rfl⟩
     rw[hKN] at hck c4
     clear hT hKN hall
     replace hT0:=Hd hT0
     unfold Dy at c4 c5
     have zw:=hz
     have hW:=hW0
     have k1:=b1.cell
     have f1:=b1.frozen
     go_wp2_with fail
     refine(c5.out _ Aa).mono ?_
     rintro e w41 ⟨p,c,rfl,hI,hb41⟩
     have z42:=hb41.size
     try simp at z42
     clear k1 f1
     refine Aj w w41 (Bc w.heap.size #[.string s.name,s.eps,s.floor,s.last,s.scale,.slice ps s.segs.length cs,.slice po s.opn.length co] 79<|Bz) ?_
     clear b1 hW
     rintro hW z43 ⟨⟨b1,yb1,k1,f1⟩,-⟩
     clear c5
     go_wp2
     refine wp_loop (Qm w s ps cs po co T p c) (fun a' _=>T.length-(Ag (a'.tmps.getD 93 undef)).toNat) ?_ ?_
     ·unfold Qm
      exact⟨hW,b1,hI,0,Ac rfl,rfl,by omega,fun e=>by have e':=List.length_eq_zero_iff.1 e.symm;rw[e'];rfl⟩
     clear b1 hW0 hI hW k1 f1
     clear hz zb1 zw
     rintro a' W ⟨hW0,b1,hI,i,⟨u,rfl⟩,hr,hi,hl9⟩
     have hz:=hW0.size
     have zb1:=b1.lt
     rcases Nat.lt_or_ge i T.length with hlt|hge
     ·obtain⟨t,tr⟩:∃r,T[i]? =some r:=⟨T[i]'(by omega),List.getElem?_eq_getElem (by omega)⟩
      obtain⟨pb,pq,rfl,q0⟩:=hI.at' i t tr
      have ht0:=hT0.out t (List.mem_of_getElem? tr)
      have e1:T.take (i+1)=T.take i++ [t]:=by rw[List.take_add_one,tr];rfl
      obtain⟨z,hz0⟩:∃z,Cs (-1) (T.take i)=z:=⟨_,rfl⟩
      have hst0:Er (-1) (T.take (i+1))=decide (z<t):=by rw[e1,Mz,hr,hz0,Bool.true_and]
      have hlT:i+1=T.length->Cs (-1) T=t:=fun e=>by
       have:T=T.take i++ [t]:=by rw[<-e1,e,List.take_length]
       rw[this,El]
      obtain⟨B1,hB1⟩:∃B,((i:Int)==(T.length:Int)-1)=B:=⟨_,rfl⟩
      obtain⟨B2,hB2⟩:∃B,(s.last !=t)=B:=⟨_,rfl⟩
      have i1:B1=true->i+1=T.length:=fun e=>by rw[<-hB1] at e;have:=beq_iff_eq.1 e;omega
      have i2:i+1=T.length->B1=true:=fun e=>by rw[<-hB1];exact beq_iff_eq.2 (by omega)
      have E2:=Hd (show wrap64 ((T.length:Int)-1)=(T.length:Int)-1 by rw[Ak];omega)
      obtain⟨F,hF⟩:∃F,(decide (z<t)&& !(B1&&B2))=F:=⟨_,rfl⟩
      have hno:=Hd (fun(e:F=false)=>(show B8 s=false by
       rw[hck.out]
       rw[<-hF] at e
       cases hd:decide (z<t) with
       |false=>rw[rise_cut (i+1) (hst0.trans hd),Bool.false_and]
       |true=>
        rw[hd,Bool.true_and,Bool.not_eq_false',Bool.and_eq_true] at e
        rw[hlT (i1 e.1)]
        have h2:=e.2
        rw[<-hB2] at h2
        have h3:(s.last==t)=false:=by simpa using h2
        rw[h3,decide_eq_false (show¬t<0 by omega)]
        simp))
      have hst:=Hd (fun(e:F=true)=>(show Er (-1) (T.take (i+1))=true by
       rw[hst0]
       rw[<-hF,Bool.and_eq_true] at e
       exact e.1))
      replace hl9:=Hd (fun(e:F=true) (e2:i+1=T.length)=>(show (decide (Cs (-1) T<0)||(s.last==Cs (-1) T))=true by
       rw[<-hF,i2 e2] at e
       rw[hlT e2]
       have h2:B2=false:=by cases B2 with|false=>rfl|true=>simp at e
       rw[<-hB2] at h2
       have h3:(s.last==t)=true:=by simpa using h2
       rw[h3,Bool.or_true]))
      by_cases h0:i=0
      ·obtain⟨G,hG0⟩:∃G,decide (0<i)=G:=⟨_,rfl⟩
       have hG:=Hd (show G=false by rw[<-hG0];exact decide_eq_false (by omega))
       have E0:=Hd hG0
       obtain rfl: -1=z:=by rw[<-hz0,h0];rfl
       have hv:=Hd (show (G||(B1&&B2))= !F by rw[<-hF,hG.out,decide_eq_true (show-1<t by omega)];simp)
       replace tr:=Hd tr
       replace hB1:=Hd hB1
       replace hB2:=Hd hB2
       clear hst0 hlT i1 i2 hF hz0 e1 hr h0 q0 hG0
       have k1:=b1.cell
       have f1:=b1.frozen
       go_upto_region 21 with(fail)
       clear k1 f1
       refine Ab W (Bc w.heap.size #[.string s.name,s.eps,s.floor,s.last,s.scale,.slice ps s.segs.length cs,.slice po s.opn.length co] 79<|Rc (fun W'=>Dd W' pb pq T)<|Bz) ?_ (hI:=by exact Aa) (hR:=(Bc.mk (by exact Ad)<|Rc.mk (by first|exact⟨hI⟩|(exact(Dd.mk hI).below Aa))<|trivial))
       clear b1
       rintro W21 hW z22 hL
       obtain⟨⟨b1,yb1,k1,f1⟩,b2,-⟩:=id hL
       clear k1 f1
       refine Dn 30 130 hW hL ?_
       iterate 3 refine dE (fun W' hC=>aI E0.out (aI E2.out (aI hB1.out (aI hB2.out (aI hlt (aI (Nat.not_le.2 hlt) (hC.2.2.1.cellAt tr.out))))))) ?_
       iterate 11
        first
        |(
         apply Ai (p:=true) (x:=G) (c:=undef) (hg:=rfl) (hd:=rfl) (hal:=rfl)
         ·intro v W' h
          simp[Af,Det,Am] at h
          simp
          exact h
         ·intro hp hx
          rw[hG.out] at hx
          cases hx)
        |(
         apply Cm (x:=G) (y:=G) (ho:=rfl) (hg:=rfl)
         ·intro v W' h
          simp at h
          exact h
         ·intro v W' h hx
          rw[hG.out] at hx
          cases hx)
       refine dE (fun W' hC=>aI E0.out (aI E2.out (aI hB1.out (aI hB2.out (aI hlt (aI (Nat.not_le.2 hlt) (hC.2.2.1.cellAt tr.out))))))) ?_
       iterate 6 refine gE (fun W' hC=>aI E0.out (aI E2.out (aI hB1.out (aI hB2.out (aI hlt (aI (Nat.not_le.2 hlt) (hC.2.2.1.cellAt tr.out))))))) ?_
       iterate 7 refine gF (fun W' hC=>aI E0.out (aI E2.out (aI hB1.out (aI hB2.out (aI hlt (aI (Nat.not_le.2 hlt) (hC.2.2.1.cellAt tr.out))))))) ?_
       refine pgA ?_
       refine pO ?_
       clear hW hL b1 b2
       rintro W23 hW z24 hL
       simp only[ndR]
       intros
       repeat (rename Am _ _ _ _=>hgd;clear hgd)
       simp only[ndS]
       refine wpList_nil ?_
       obtain⟨⟨b1,yb1,k1,f1⟩,b2,-⟩:=hL
       rw[hv.out]
       cases F with
       |false=>
        go_wp2
        go_ret
        exact⟨by rw[hno.out (by trivial)];rfl,by exact Aa⟩
       |true=>
        go_wp2
        rw[show (i:Int)+1=((i+1:Nat):Int) by omega]
        refine⟨?_,by simp[Ag];omega⟩
        unfold Qm
        exact⟨hW0.trans (hW.mono hz),b1,hI.below hW,i+1,Ac rfl,hst.out (by trivial),by omega,fun e=>hl9.out (by trivial) e⟩
      ·obtain⟨j,hj⟩:∃j,i=j+1:=⟨i-1,by omega⟩
       obtain⟨y,ty⟩:∃r,T[j]? =some r:=⟨T[j]'(by omega),List.getElem?_eq_getElem (by omega)⟩
       obtain rfl:y=z:=by rw[<-hz0,hj,List.take_add_one,ty];exact(El _ _ _).symm
       have E0:=Hd (show decide (0<i)=true from decide_eq_true (by omega))
       have E1:=Hd (show wrap64 ((i:Int)-1)=(j:Int) by rw[Ak];omega)
       have g1:j<T.length:=by omega
       have hv:=Hd (show (decide (t<=y)||(B1&&B2))= !F by
        rw[<-hF,show decide (y<t)= !decide (t<=y) by rw[Bool.eq_iff_iff];simp]
        cases decide (t<=y)<;>cases B1<;>cases B2<;>rfl)
       have tj:=Hd ty
       replace tr:=Hd tr
       replace hB1:=Hd hB1
       replace hB2:=Hd hB2
       clear hst0 hlT i1 i2 hF hz0 e1 hr h0 ty q0 hj
       have k1:=b1.cell
       have f1:=b1.frozen
       go_upto_region 21 with(fail)
       clear k1 f1
       refine Ab W (Bc w.heap.size #[.string s.name,s.eps,s.floor,s.last,s.scale,.slice ps s.segs.length cs,.slice po s.opn.length co] 79<|Rc (fun W'=>Dd W' pb pq T)<|Bz) ?_ (hI:=by exact Aa) (hR:=(Bc.mk (by exact Ad)<|Rc.mk (by first|exact⟨hI⟩|(exact(Dd.mk hI).below Aa))<|trivial))
       clear b1
       rintro W21 hW z22 hL
       obtain⟨⟨b1,yb1,k1,f1⟩,b2,-⟩:=id hL
       clear k1 f1
       refine Dn 30 130 hW hL ?_
       iterate 3 refine dE (fun W' hC=>aI E0.out (aI E2.out (aI hB1.out (aI hB2.out (aI hlt (aI (Nat.not_le.2 hlt) (aI (hC.2.2.1.cellAt tr.out) (aI E1.out (aI g1 (aI (Nat.not_le.2 g1) (hC.2.2.1.cellAt tj.out))))))))))) ?_
       iterate 10 refine gE (fun W' hC=>aI E0.out (aI E2.out (aI hB1.out (aI hB2.out (aI hlt (aI (Nat.not_le.2 hlt) (aI (hC.2.2.1.cellAt tr.out) (aI E1.out (aI g1 (aI (Nat.not_le.2 g1) (hC.2.2.1.cellAt tj.out))))))))))) ?_
       refine pA ?_
       refine dE (fun W' hC=>aI E0.out (aI E2.out (aI hB1.out (aI hB2.out (aI hlt (aI (Nat.not_le.2 hlt) (aI (hC.2.2.1.cellAt tr.out) (aI E1.out (aI g1 (aI (Nat.not_le.2 g1) (hC.2.2.1.cellAt tj.out))))))))))) ?_
       iterate 6 refine gE (fun W' hC=>aI E0.out (aI E2.out (aI hB1.out (aI hB2.out (aI hlt (aI (Nat.not_le.2 hlt) (aI (hC.2.2.1.cellAt tr.out) (aI E1.out (aI g1 (aI (Nat.not_le.2 g1) (hC.2.2.1.cellAt tj.out))))))))))) ?_
       iterate 7 refine gF (fun W' hC=>aI E0.out (aI E2.out (aI hB1.out (aI hB2.out (aI hlt (aI (Nat.not_le.2 hlt) (aI (hC.2.2.1.cellAt tr.out) (aI E1.out (aI g1 (aI (Nat.not_le.2 g1) (hC.2.2.1.cellAt tj.out))))))))))) ?_
       refine pgA ?_
       refine pO ?_
       clear hW hL b1 b2
       rintro W23 hW z24 hL
       simp only[ndR]
       intros
       repeat (rename Am _ _ _ _=>hgd;clear hgd)
       simp only[ndS]
       refine wpList_nil ?_
       obtain⟨⟨b1,yb1,k1,f1⟩,b2,-⟩:=hL
       rw[hv.out]
       cases F with
       |false=>
        go_wp2
        go_ret
        exact⟨by rw[hno.out (by trivial)];rfl,by exact Aa⟩
       |true=>
        go_wp2
        rw[show (i:Int)+1=((i+1:Nat):Int) by omega]
        refine⟨?_,by simp[Ag];omega⟩
        unfold Qm
        exact⟨hW0.trans (hW.mono hz),b1,hI.below hW,i+1,Ac rfl,hst.out (by trivial),by omega,fun e=>hl9.out (by trivial) e⟩
     ·obtain rfl:i=T.length:=by omega
      rw[List.take_length] at hr
      have hres:=Hd (show B8 s=decide ((KN:Int)<=1024) by
       rw[hck.out,hr,hl9 rfl,Bool.true_and,Bool.true_and,Bool.eq_iff_iff]
       simp only[decide_eq_true_eq]
       omega)
      clear hr hl9 hck
      have hW:=hW0
      have k1:=b1.cell
      have f1:=b1.frozen
      go_wp2_with fail
      refine(c4.out _ Aa).mono ?_
      rintro e w41 ⟨rfl,hb41⟩
      have z42:=hb41.size
      try simp at z42
      clear k1 f1
      refine Aj w w41 (Bc w.heap.size #[.string s.name,s.eps,s.floor,s.last,s.scale,.slice ps s.segs.length cs,.slice po s.opn.length co] 79<|Bz) ?_
      clear b1 hW
      rintro hW z43 ⟨⟨b1,yb1,k1,f1⟩,-⟩
      go_wp2
      go_ret
      exact⟨by rw[hres.out];rfl,by exact Aa⟩
end Go.Proofs.YtdeghcgakkhbmaaGreat
namespace Go.Proofs.YtdeghcgakkhbmaaGreat
open Go.RowKit
def eqRunRel (w:World) (p:Option Addr) (cap:Nat) (p':Option Addr) (cap':Nat) (A B:List Ah) (a':Act) (W:World):Prop:=
 Below w.heap.size w W/\∃(i:Nat),(∃u:Nat->Value,a'= {tmps:= #[.slice p A.length cap,.slice p' A.length cap',u 2,u 3,.bool false,u 5,u 6,u 7,u 8,u 9,u 10,u 11,.int .i64 (A.length:Int),.int .i64 (i:Int),u 14,u 15,u 16,u 17,u 18,u 19,u 20,u 21,u 22,u 23,u 24,u 25],defers:= []})/\i<=A.length/\∀k,k<i->A[k]? =B[k]?
def eqIntRel (w:World) (p:Option Addr) (cap:Nat) (p':Option Addr) (cap':Nat) (A B:List Int) (a':Act) (W:World):Prop:=
 Below w.heap.size w W/\∃(i:Nat),(∃u:Nat->Value,a'= {tmps:= #[.slice p A.length cap,.slice p' A.length cap',u 2,u 3,.bool false,u 5,u 6,u 7,u 8,u 9,u 10,u 11,.int .i64 (A.length:Int),.int .i64 (i:Int),u 14,u 15,u 16,u 17,u 18,u 19,u 20,u 21,u 22,u 23,u 24,u 25],defers:= []})/\i<=A.length/\∀k,k<i->A[k]? =B[k]?
def rsRel (w:World) (K A R n d E:Int) (p q:Option Addr) (len cap vc:Nat) (K' A' R' n' d' E':Int) (p' q':Option Addr) (len' cap' vc':Nat) (V V':List Int) (a':Act) (W:World):Prop:=
 Below w.heap.size w W/\Blk W w.heap.size #[K,.slice p len cap,A,R,n,d,.slice q V.length vc,E] 135/\Blk W (w.heap.size+1) #[K',.slice p' len' cap',A',R',n',d',.slice q' V.length vc',E'] 135/\∃(i:Nat),(∃u:Nat->Value,a'= {tmps:= #[u 0,u 1,.pointer (some ⟨w.heap.size,0,none⟩),.pointer (some ⟨w.heap.size+1,0,none⟩),.bool false,.int .i64 (i:Int),u 6,u 7,u 8,u 9,u 10,u 11,u 12,u 13,u 14,u 15,u 16,u 17,u 18,u 19,u 20,u 21,u 22,u 23,u 24,u 25,u 26,u 27,u 28,u 29,u 30,u 31,u 32,u 33,u 34,u 35,u 36,u 37,u 38,u 39,u 40,u 41,u 42,u 43,u 44,u 45,u 46,u 47,u 48,u 49,u 50,u 51,u 52,u 53,u 54,u 55,u 56,u 57,u 58,u 59],defers:= []})/\i<=V.length/\∀k,k<i->V[k]? =V'[k]?
def sameT (s t:Aw):Bool:=(s.K==t.K)&&(decide (s.A=t.A)&&decide (s.R=t.R)&&decide (s.n=t.n)&&decide (s.d=t.d))&&(s.E==t.E)&&decide (s.runs=t.runs)&&decide (s.raw=t.raw)
def s13Rel (w:World) (p p':Option Addr) (cap cap':Nat) (l:List Aw) (a':Act) (W:World):Prop:=
 Below w.heap.size w W/\∃i:Nat,(∃u:Nat->Value,a'= {tmps:= #[.slice p l.length cap,.slice p' l.length cap',u 2,u 3,u 4,.int .i64 (i:Int),u 6,u 7,u 8,u 9,u 10,u 11,u 12,u 13,u 14,u 15,u 16,u 17,u 18,u 19,u 20,u 21,u 22,u 23,u 24,u 25,u 26],defers:= []})/\i<=l.length
def s24Rel (w:World) (s:A8) (ps1 ps2:Option Addr) (cs1 cs2:Nat) (po1 po2:Option Addr) (co1 co2:Nat) (a':Act) (W:World):Prop:=
 Below w.heap.size w W/\Blk W w.heap.size #[.string s.name,s.eps,s.floor,s.last,s.scale,.slice ps1 s.segs.length cs1,.slice po1 s.opn.length co1] 79/\Blk W (w.heap.size+1) #[.string s.name,s.eps,s.floor,s.last,s.scale,.slice ps2 s.segs.length cs2,.slice po2 s.opn.length co2] 79/\∃i:Nat,(∃u:Nat->Value,a'= {tmps:= #[u 0,u 1,.pointer (some ⟨w.heap.size,0,none⟩),.pointer (some ⟨w.heap.size+1,0,none⟩),u 4,u 5,u 6,u 7,u 8,u 9,u 10,u 11,u 12,u 13,u 14,u 15,u 16,u 17,u 18,u 19,u 20,u 21,u 22,u 23,u 24,u 25,u 26,u 27,u 28,u 29,u 30,u 31,u 32,u 33,u 34,u 35,u 36,u 37,u 38,u 39,u 40,u 41,u 42,u 43,u 44,u 45,u 46,u 47,u 48,u 49,u 50,u 51,u 52,u 53,u 54,u 55,u 56,u 57,.int .i64 (s.opn.length:Int),.int .i64 (i:Int),u 60,u 61,u 62,u 63,u 64,u 65,u 66,u 67,u 68,u 69,u 70,u 71,u 72,u 73],defers:= []})/\i<=s.opn.length
def eqqRel (w:World) (p:Option Addr) (cap:Nat) (p':Option Addr) (cap':Nat) (A B:List (Int×Int)) (a':Act) (W:World):Prop:=
 Below w.heap.size w W/\∃(i:Nat),(∃u:Nat->Value,a'= {tmps:= #[.slice p A.length cap,.slice p' A.length cap',u 2,u 3,.bool false,u 5,u 6,u 7,u 8,u 9,u 10,u 11,.int .i64 (A.length:Int),.int .i64 (i:Int),u 14,u 15,u 16,u 17,u 18,u 19,u 20,u 21,u 22,u 23,u 24,u 25],defers:= []})/\i<=A.length/\∀k,k<i->A[k]? =B[k]?
def sameL:List Aw->List Aw->Bool
 | [],[]=>true
 |s::l,t::m=>sameT s t&&sameL l m
 |_,_=>false
def Upto (l m:List Aw) (i:Nat):Prop:=∀(k:Nat) x y,k<i->l[k]? =some x->m[k]? =some y->sameT x y=true
theorem Upto.next {l m:List Aw} {i:Nat} {x y:Aw} (h:Upto l m i) (h1:l[i]? =some x) (h2:m[i]? =some y) (h3:sameT x y=true):Upto l m (i+1):=fun k u v hk hu hv=>by
 rcases Nat.lt_or_ge k i with hlt|hge
 ·exact h k u v hlt hu hv
 ·obtain rfl:k=i:=by omega
  rw[h1] at hu;rw[h2] at hv
  injection hu with hu;injection hv with hv
  rw[<-hu,<-hv];exact h3
def s13gRel (w:World) (p p':Option Addr) (cap cap':Nat) (l m:List Aw) (a':Act) (W:World):Prop:=
 Below w.heap.size w W/\∃i:Nat,(∃u:Nat->Value,a'= {tmps:= #[.slice p l.length cap,.slice p' l.length cap',u 2,u 3,u 4,.int .i64 (i:Int),u 6,u 7,u 8,u 9,u 10,u 11,u 12,u 13,u 14,u 15,u 16,u 17,u 18,u 19,u 20,u 21,u 22,u 23,u 24,u 25,u 26],defers:= []})/\i<=l.length/\Upto l m i
def Ks:List At->List At->Bool
 | [],[]=>true
 |s::l,t::m=>K7 s t&&Ks l m
 |_,_=>false
theorem Ra :∀l:List At,Ks l l=true
 | []=>rfl
 |s::l=>by simp[Ks,sameR_refl,Ra l]
theorem Ug :∀ {l m:List At},¬l.length=m.length->Ks l m=false
 | [],[],h=>absurd rfl h
 | [],_::_,_=>rfl
 |_::_,[],_=>rfl
 |s::l,t::m,h=>by simp only[Ks,Ug (l:=l) (m:=m) (by simpa using h),Bool.and_false]
theorem Yb :∀ {l m:List At} {i:Nat} {x y:At},l[i]? =some x->m[i]? =some y->K7 x y=false->Ks l m=false
 | [],_,_,_,_,h1,_,_=>by simp at h1
 |_::_,[],_,_,_,_,h2,_=>by simp at h2
 |s::l,t::m,0,x,y,h1,h2,h=>by
  simp at h1 h2;subst h1;subst h2
  simp[Ks,h]
 |s::l,t::m,i+1,x,y,h1,h2,h=>by
  rw[List.getElem?_cons_succ] at h1 h2
  show (K7 s t&&Ks l m)=false
  rw[Yb h1 h2 h,Bool.and_false]
theorem Uf :∀ {l m:List At},l.length=m.length->(∀(i:Nat) x y,l[i]? =some x->m[i]? =some y->K7 x y=true)->Ks l m=true
 | [],[],_,_=>rfl
 |s::l,t::m,hl,h=>by
  simp only[Ks,h 0 s t rfl rfl,Bool.true_and]
  exact Uf (by simpa using hl) fun i x y h1 h2=>h (i+1) x y (by simpa using h1) (by simpa using h2)
def UptoM (l m:List At) (i:Nat):Prop:=∀(k:Nat) x y,k<i->l[k]? =some x->m[k]? =some y->K7 x y=true
theorem UptoM.next {l m:List At} {i:Nat} {x y:At} (h:UptoM l m i) (h1:l[i]? =some x) (h2:m[i]? =some y) (h3:K7 x y=true):UptoM l m (i+1):=fun k u v hk hu hv=>by
 rcases Nat.lt_or_ge k i with hlt|hge
 ·exact h k u v hlt hu hv
 ·obtain rfl:k=i:=by omega
  rw[h1] at hu;rw[h2] at hv
  injection hu with hu;injection hv with hv
  rw[<-hu,<-hv];exact h3
def Tu (l:List At):Prop:=∀(i:Nat) r,l[i]? =some r->r.pts.length<=2000
def mefRel (w:World) (p p':Option Addr) (cap cap':Nat) (l m:List At) (a':Act) (W:World):Prop:=
 Below w.heap.size w W/\∃i:Nat,(∃u:Nat->Value,a'= {tmps:= #[.slice p l.length cap,.slice p' l.length cap',.func (.func 72) #[] #[],u 3,u 4,u 5,.bool false,u 7,u 8,u 9,u 10,u 11,u 12,u 13,u 14,.slice p l.length cap,.int .i64 (l.length:Int),.int .i64 (i:Int),u 18,u 19,u 20,u 21,u 22,u 23,u 24,u 25,u 26,u 27,u 28,u 29,u 30,u 31],defers:= []})/\i<=l.length/\UptoM l m i
def rsmRel (w:World) (p p':Option Addr) (cap cap':Nat) (l m:List At) (a':Act) (W:World):Prop:=
 Below w.heap.size w W/\Blk W w.heap.size #[.slice p l.length cap] 27/\Blk W (w.heap.size+1) #[.slice p' l.length cap'] 27/\∃i:Nat,(∃u:Nat->Value,a'= {tmps:= #[u 0,u 1,.pointer (some ⟨w.heap.size,0,none⟩),.pointer (some ⟨(w.heap.size+1),0,none⟩),.bool false,u 5,u 6,u 7,u 8,u 9,u 10,u 11,u 12,u 13,u 14,.int .i64 (l.length:Int),.int .i64 (i:Int),u 17,u 18,u 19,u 20,u 21,u 22,u 23,u 24,u 25,u 26,u 27,u 28,u 29,u 30,u 31],defers:= []})/\i<=l.length/\UptoM l m i
theorem refSameM_w (l m:List At) (p p':Option Addr) (cap cap':Nat) (w:World) (h:D3 w p l) (h':D3 w p' m) (hl:l.length<=100) (hfw:Tu l) (hfm:Tu m) (hlm:l.length=m.length):
  Cb 13 #[.agg #[.slice p l.length cap],.agg #[.slice p' l.length cap']] w (.bool (Ks l m)):=by
 replace hlm:=Hd hlm
 go_enter Tryz.func13,Tryz.ntmps13
 go_upto_region 1 with(fail)
 refine Ab w (Bc w.heap.size #[.slice p l.length cap] 27<|Bc (w.heap.size+1) #[.slice p' l.length cap'] 27<|Bz) ?_
 rintro W1 hW z2 ⟨⟨b1,yb1,k1,f1⟩,⟨b2,yb2,k2,f2⟩,-⟩
 go_wp2
 clear k1 f1 k2 f2
 refine wp_loop (rsmRel w p p' cap cap' l m) (fun a' _=>l.length-(Ag (a'.tmps.getD 16 undef)).toNat) ?_ ?_
 ·unfold rsmRel
  exact⟨hW,b1,b2,0,Ac rfl,by omega,fun k x y hk=>by omega⟩
 clear b1 b2 hW
 rintro a' W ⟨hW0,b1,b2,i,⟨u,rfl⟩,hi,hup⟩
 have hz:=hW0.size
 replace hup:=Hd hup
 rcases Nat.lt_or_ge i l.length with hlt|hge
 ·obtain⟨x,tr⟩:∃r,l[i]? =some r:=⟨l[i]'(by omega),List.getElem?_eq_getElem (by omega)⟩
  obtain⟨y,tq⟩:∃r,m[i]? =some r:=⟨m[i]'(by have:=hlm.out;omega),List.getElem?_eq_getElem (by have:=hlm.out;omega)⟩
  obtain⟨g1,o1,p1,co1,rfl,h1,r1,-⟩:=(h.below hW0).at' i x tr
  obtain⟨g2,o2,p2,co2,rfl,h2,r2,-⟩:=(h'.below hW0).at' i y tq
  have hx9:=hfw i x tr
  have hy9:=hfm i y tq
  have c1:=fun W' (hW':Below W.heap.size W W')=>Sn x y p1 p2 co1 co2 W' (r1.below hW') (r2.below hW') hx9 hy9
  replace tr:=Hd tr
  replace tq:=Hd tq
  have zb1:=b1.lt
  have zb2:=b2.lt
  cases hB:K7 x y with
  |true=>
   have hup':=Hd (hup.out.next tr.out tq.out hB)
   rw[hB] at c1
   unfold Dw at c1 h1 h2
   replace c1:=Hd c1
   clear r1 r2 hB
   go_upto_region 6 with(fail)
   refine Ab W (Bc w.heap.size #[.slice (some ⟨g1,o1,none⟩) l.length cap] 27<|Bc (w.heap.size+1) #[.slice (some ⟨g2,o2,none⟩) l.length cap'] 27<|Rc (fun W'=>Ck W' g1 (o1+i*6) #[.string x.name,x.eps,x.floor,x.last,x.scale,.slice p1 x.pts.length co1])<|Rc (fun W'=>Ck W' g2 (o2+i*6) #[.string y.name,y.eps,y.floor,y.last,y.scale,.slice p2 y.pts.length co2])<|Bz) ?_ (hI:=by exact Aa) (hR:=(Bc.mk (by exact Ad)<|Bc.mk (by exact Ad)<|Rc.mk (by first|exact⟨h1⟩|(exact(Ck.mk h1).below Aa))<|Rc.mk (by first|exact⟨h2⟩|(exact(Ck.mk h2).below Aa))<|trivial))
   clear b1 b2
   rintro W21 hW z22 hL
   obtain⟨⟨b1,yb1,k1,f1⟩,⟨b2,yb2,k2,f2⟩,b3,b4,-⟩:=id hL
   clear k1 f1 k2 f2
   refine Dn 12 32 hW hL ?_
   iterate 10 refine dE (fun W' hC=>aI hlt (aI (Nat.not_le.2 hlt) (aI (hC.2.2.2.1.at' 0 _ rfl) (aI (hC.2.2.2.1.at' 1 _ rfl) (aI (hC.2.2.2.1.at' 2 _ rfl) (aI (hC.2.2.2.1.at' 3 _ rfl) (aI (hC.2.2.2.1.at' 4 _ rfl) (aI (hC.2.2.2.1.at' 5 _ rfl) (aI (hC.2.2.2.2.1.at' 0 _ rfl) (aI (hC.2.2.2.2.1.at' 1 _ rfl) (aI (hC.2.2.2.2.1.at' 2 _ rfl) (aI (hC.2.2.2.2.1.at' 3 _ rfl) (aI (hC.2.2.2.2.1.at' 4 _ rfl) (hC.2.2.2.2.1.at' 5 _ rfl)))))))))))))) ?_
   refine cE (fun W' hC=>aI hlt (aI (Nat.not_le.2 hlt) (aI (hC.2.2.2.1.at' 0 _ rfl) (aI (hC.2.2.2.1.at' 1 _ rfl) (aI (hC.2.2.2.1.at' 2 _ rfl) (aI (hC.2.2.2.1.at' 3 _ rfl) (aI (hC.2.2.2.1.at' 4 _ rfl) (aI (hC.2.2.2.1.at' 5 _ rfl) (aI (hC.2.2.2.2.1.at' 0 _ rfl) (aI (hC.2.2.2.2.1.at' 1 _ rfl) (aI (hC.2.2.2.2.1.at' 2 _ rfl) (aI (hC.2.2.2.2.1.at' 3 _ rfl) (aI (hC.2.2.2.2.1.at' 4 _ rfl) (hC.2.2.2.2.1.at' 5 _ rfl)))))))))))))) (fun W' hC=>c1.out W' (hW.trans (hC.1.of_priv hW.size))) ?_
   refine dE (fun W' hC=>aI hlt (aI (Nat.not_le.2 hlt) (aI (hC.2.2.2.1.at' 0 _ rfl) (aI (hC.2.2.2.1.at' 1 _ rfl) (aI (hC.2.2.2.1.at' 2 _ rfl) (aI (hC.2.2.2.1.at' 3 _ rfl) (aI (hC.2.2.2.1.at' 4 _ rfl) (aI (hC.2.2.2.1.at' 5 _ rfl) (aI (hC.2.2.2.2.1.at' 0 _ rfl) (aI (hC.2.2.2.2.1.at' 1 _ rfl) (aI (hC.2.2.2.2.1.at' 2 _ rfl) (aI (hC.2.2.2.2.1.at' 3 _ rfl) (aI (hC.2.2.2.2.1.at' 4 _ rfl) (hC.2.2.2.2.1.at' 5 _ rfl)))))))))))))) ?_
   clear hW hL b1 b2 b3 b4
   rintro W23 hW z24 hL
   simp only[ndR]
   intros
   simp only[ndS]
   refine wpList_nil ?_
   obtain⟨⟨b1,yb1,k1,f1⟩,⟨b2,yb2,k2,f2⟩,b3,b4,-⟩:=hL
   go_wp2
   rw[show (i:Int)+1=((i+1:Nat):Int) by omega]
   refine⟨?_,by simp[Ag];omega⟩
   unfold rsmRel
   exact⟨hW0.trans (hW.mono hz),b1,b2,i+1,Ac rfl,by omega,hup'.out⟩
  |false=>
   have hno:=Hd (Yb tr.out tq.out hB)
   rw[hB] at c1
   unfold Dw at c1 h1 h2
   replace c1:=Hd c1
   clear r1 r2 hB
   go_upto_region 6 with(fail)
   refine Ab W (Bc w.heap.size #[.slice (some ⟨g1,o1,none⟩) l.length cap] 27<|Bc (w.heap.size+1) #[.slice (some ⟨g2,o2,none⟩) l.length cap'] 27<|Rc (fun W'=>Ck W' g1 (o1+i*6) #[.string x.name,x.eps,x.floor,x.last,x.scale,.slice p1 x.pts.length co1])<|Rc (fun W'=>Ck W' g2 (o2+i*6) #[.string y.name,y.eps,y.floor,y.last,y.scale,.slice p2 y.pts.length co2])<|Bz) ?_ (hI:=by exact Aa) (hR:=(Bc.mk (by exact Ad)<|Bc.mk (by exact Ad)<|Rc.mk (by first|exact⟨h1⟩|(exact(Ck.mk h1).below Aa))<|Rc.mk (by first|exact⟨h2⟩|(exact(Ck.mk h2).below Aa))<|trivial))
   clear b1 b2
   rintro W21 hW z22 hL
   obtain⟨⟨b1,yb1,k1,f1⟩,⟨b2,yb2,k2,f2⟩,b3,b4,-⟩:=id hL
   clear k1 f1 k2 f2
   refine Dn 12 32 hW hL ?_
   iterate 10 refine dE (fun W' hC=>aI hlt (aI (Nat.not_le.2 hlt) (aI (hC.2.2.2.1.at' 0 _ rfl) (aI (hC.2.2.2.1.at' 1 _ rfl) (aI (hC.2.2.2.1.at' 2 _ rfl) (aI (hC.2.2.2.1.at' 3 _ rfl) (aI (hC.2.2.2.1.at' 4 _ rfl) (aI (hC.2.2.2.1.at' 5 _ rfl) (aI (hC.2.2.2.2.1.at' 0 _ rfl) (aI (hC.2.2.2.2.1.at' 1 _ rfl) (aI (hC.2.2.2.2.1.at' 2 _ rfl) (aI (hC.2.2.2.2.1.at' 3 _ rfl) (aI (hC.2.2.2.2.1.at' 4 _ rfl) (hC.2.2.2.2.1.at' 5 _ rfl)))))))))))))) ?_
   refine cE (fun W' hC=>aI hlt (aI (Nat.not_le.2 hlt) (aI (hC.2.2.2.1.at' 0 _ rfl) (aI (hC.2.2.2.1.at' 1 _ rfl) (aI (hC.2.2.2.1.at' 2 _ rfl) (aI (hC.2.2.2.1.at' 3 _ rfl) (aI (hC.2.2.2.1.at' 4 _ rfl) (aI (hC.2.2.2.1.at' 5 _ rfl) (aI (hC.2.2.2.2.1.at' 0 _ rfl) (aI (hC.2.2.2.2.1.at' 1 _ rfl) (aI (hC.2.2.2.2.1.at' 2 _ rfl) (aI (hC.2.2.2.2.1.at' 3 _ rfl) (aI (hC.2.2.2.2.1.at' 4 _ rfl) (hC.2.2.2.2.1.at' 5 _ rfl)))))))))))))) (fun W' hC=>c1.out W' (hW.trans (hC.1.of_priv hW.size))) ?_
   refine dE (fun W' hC=>aI hlt (aI (Nat.not_le.2 hlt) (aI (hC.2.2.2.1.at' 0 _ rfl) (aI (hC.2.2.2.1.at' 1 _ rfl) (aI (hC.2.2.2.1.at' 2 _ rfl) (aI (hC.2.2.2.1.at' 3 _ rfl) (aI (hC.2.2.2.1.at' 4 _ rfl) (aI (hC.2.2.2.1.at' 5 _ rfl) (aI (hC.2.2.2.2.1.at' 0 _ rfl) (aI (hC.2.2.2.2.1.at' 1 _ rfl) (aI (hC.2.2.2.2.1.at' 2 _ rfl) (aI (hC.2.2.2.2.1.at' 3 _ rfl) (aI (hC.2.2.2.2.1.at' 4 _ rfl) (hC.2.2.2.2.1.at' 5 _ rfl)))))))))))))) ?_
   clear hW hL b1 b2 b3 b4
   rintro W23 hW z24 hL
   simp only[ndR]
   intros
   simp only[ndS]
   refine wpList_nil ?_
   obtain⟨⟨b1,yb1,k1,f1⟩,⟨b2,yb2,k2,f2⟩,b3,b4,-⟩:=hL
   go_wp2
   go_ret
   exact⟨by rw[hno.out];rfl,hW0.trans (hW.mono hz)⟩
 ·obtain rfl:i=l.length:=by omega
  have hyes:=Hd (Uf hlm.out fun k x y h1 h2=>hup.out k x y (List.getElem?_eq_some_iff.1 h1).1 h1 h2)
  go_wp2
  go_ret
  exact⟨by rw[hyes.out];rfl,hW0⟩
theorem V5 (p:Option Addr) (n cap:Nat) (p':Option Addr) (k cap':Nat) (w:World) (hl:¬n=k):
  Cb 13 #[.agg #[.slice p n cap],.agg #[.slice p' k cap']] w (.bool false):=by
 go_enter Tryz.func13,Tryz.ntmps13
 go_upto_region 1 with(fail)
 refine Ab w (Bc w.heap.size #[.slice p n cap] 27<|Bc (w.heap.size+1) #[.slice p' k cap'] 27<|Bz) ?_
 rintro W1 hW z2 ⟨⟨b1,yb1,k1,f1⟩,⟨b2,yb2,k2,f2⟩,-⟩
 go_wp2
 go_ret
 exact⟨rfl,by exact Aa⟩
theorem Zv (l m:List At) (p p':Option Addr) (cap cap':Nat) (w:World) (h:D3 w p l) (h':D3 w p' m) (hl:l.length<=100) (hfw:Tu l) (hfm:Tu m):
  Cb 13 #[.agg #[.slice p l.length cap],.agg #[.slice p' m.length cap']] w (.bool (Ks l m)):=by
 by_cases e:l.length=m.length
 ·rw[<-e];exact refSameM_w l m p p' cap cap' w h h' hl hfw hfm e
 ·rw[Ug e];exact V5 p _ cap p' _ cap' w e
theorem Fg (t:TypeId) (a b:ByteArray):binOp .geq t (.string a) (.string b)=pure (.bool (!Op.bytesLess a.toList b.toList)):=by simp[binOp,Op.stringOp]
def Pz (rows:List At) (i:Nat) (r:At):Bool:=G5 r&&match i with
 |0=>true
 |j+1=>match rows[j]? with
  |some q=>Op.bytesLess q.name.toList r.name.toList
  |none=>true
def okN (rows:List At):Nat->Bool
 |0=>true
 |i+1=>okN rows i&&match rows[i]? with
  |some r=>Pz rows i r
  |none=>true
theorem Rq {rows:List At} {i:Nat} {r:At} (hr:rows[i]? =some r):okN rows (i+1)=(okN rows i&&Pz rows i r):=by
 simp only[okN,hr]
theorem Yt {rows:List At} {i:Nat} (h:okN rows i=false):∀k,okN rows (i+k)=false
 |0=>h
 |k+1=>by
  rw[<-Nat.add_assoc]
  simp only[okN,Yt h k,Bool.false_and]
theorem okN_no {rows:List At} {i:Nat} (h:okN rows i=false) (hi:i<=rows.length):okN rows rows.length=false:=by
 have:=Yt h (rows.length-i)
 rwa [show i+(rows.length-i)=rows.length by omega] at this
def Gi (rows:List At):Bool:=okN rows rows.length&&decide (rows.length<=8)
def FewN (l:List At):Prop:=∀(i:Nat) r,l[i]? =some r->r.name.size<=1000
def V0 (w:World) (p:Option Addr) (cap:Nat) (rows:List At) (a':Act) (W:World):Prop:=
 Below w.heap.size w W/\Blk W w.heap.size #[.slice p rows.length cap] 27/\∃i:Nat,(∃u:Nat->Value,a'= {tmps:= #[u 0,.pointer (some ⟨w.heap.size,0,none⟩),.bool false,u 3,u 4,u 5,.slice p rows.length cap,.int .i64 (rows.length:Int),.int .i64 (i:Int),u 9,u 10,u 11,u 12,u 13,u 14,u 15,u 16,u 17,u 18,u 19,u 20,u 21,u 22,u 23,u 24,u 25,u 26,u 27,u 28,u 29,u 30,u 31,u 32,u 33,u 34,u 35,u 36],defers:= []})/\okN rows i=true/\i<=rows.length
theorem Xd (p:Option Addr) (cap:Nat) (rows:List At) (w:World) (h:D3 w p rows) (hfw:Tu rows) (hfn:FewN rows) (hmx:rows.length<=100):
  Cb 18 #[.agg #[.slice p rows.length cap]] w (.bool (Gi rows)):=by
 obtain⟨RES,hRES⟩:∃x,Gi rows=x:=⟨_,rfl⟩
 rw[hRES]
 replace hRES:=Hd hRES
 go_enter Tryz.func18,Tryz.ntmps18
 go_upto_region 1 with(fail)
 refine Ab w (Bc w.heap.size #[.slice p rows.length cap] 27<|Bz) ?_
 rintro W1 hW z2 ⟨⟨b1,yb1,k1,f1⟩,-⟩
 go_wp2
 clear k1 f1
 refine wp_loop (V0 w p cap rows) (fun a' _=>rows.length-(Ag (a'.tmps.getD 8 undef)).toNat) ?_ ?_
 ·unfold V0
  exact⟨hW,b1,0,Ac rfl,rfl,Nat.zero_le _⟩
 clear b1 hW
 rintro a' W ⟨hW0,b1,i,⟨u,rfl⟩,hi,hi'⟩
 have hz:=hW0.size
 have yb1:=b1.lt
 rcases Nat.lt_or_ge i rows.length with hlt|hge
 ·obtain⟨r0,tr⟩:∃x,rows[i]? =some x:=⟨rows[i]'(by omega),List.getElem?_eq_getElem (by omega)⟩
  have hR:=h.below hW0
  obtain⟨b0,o0,p0,c0,rfl,h1,hps,hpc⟩:=hR.at' i _ tr
  have hf1:=hfw i _ tr
  have hf2:=hfn i _ tr
  have hnx:=Rq tr
  rw[hi,Bool.true_and] at hnx
  have cP:=fun W' (hW':Below W.heap.size W W')=>c_ref28Raw r0 p0 c0 W' (hps.below hW') hf1 hf2
  obtain⟨PB,hPB⟩:∃B,G5 r0=B:=⟨_,rfl⟩
  obtain⟨F,hF⟩:∃B,Pz rows i r0=B:=⟨_,rfl⟩
  rw[hF] at hnx
  have hno:=Hd (fun(e:F=false)=>(show RES=false by rw[<-hRES.out,Gi,okN_no (hnx.trans e) hlt,Bool.false_and]))
  have hst:=Hd (fun(e:F=true)=>(show okN rows (i+1)=true from hnx.trans e))
  rw[hPB] at cP
  unfold Dw at cP h1
  replace cP:=Hd cP
  have s0:=h1 0 _ rfl
  have s1:=h1 1 _ rfl
  have s2:=h1 2 _ rfl
  have s3:=h1 3 _ rfl
  have s4:=h1 4 _ rfl
  have s5:=h1 5 _ rfl
  simp only[Nat.add_zero] at s0
  by_cases h0:i=0
  ·have E0:=Hd (show decide (0<i)=false from decide_eq_false (by omega))
   have hv:=Hd (show (!PB||false)= !F by rw[<-hF,h0];simp[Pz,hPB])
   clear hps hpc hPB tr hi h0 h1 hF hnx
   have k1:=b1.cell
   have f1:=b1.frozen
   go_upto_region 4 with(fail)
   clear k1 f1
   refine Ab W (Bc w.heap.size #[.slice (some ⟨b0,o0,none⟩) rows.length cap] 27<|Bc W.heap.size #[.string r0.name,r0.eps,r0.floor,r0.last,r0.scale,.slice p0 r0.pts.length c0] 35<|Bz) ?_
   clear b1
   rintro W21 hW z22 hL
   obtain⟨⟨b1,yb1,k1,f1⟩,⟨b2,yb2,k2,f2⟩,-⟩:=id hL
   clear k1 f1 k2 f2
   refine Bw 19 37 hW hL ?_
   refine dE (fun W' hC=>E0.out) ?_
   refine cE (fun W' hC=>E0.out) (fun W' hC=>cP.out W' (hW.trans (hC.1.of_priv hW.size))) ?_
   iterate 2 refine dE (fun W' hC=>E0.out) ?_
   iterate 3 refine gE (fun W' hC=>E0.out) ?_
   iterate 11
    first
    |(
     apply Ai (c:=undef) (hg:=rfl) (hd:=rfl) (hal:=rfl)
     ·intro v W' h
      exact h
     ·intro hp hx
      cases hx)
    |(
     apply Dp (p:=true) (x:=false) (y:=false) (ho:=rfl) (hg:=rfl) (hd:=rfl)
     ·intro v W' h
      simp[Af,Det,Am] at h
      simp
      exact h
     ·intro _ hx v W' h
      simp[Af,Det,Am,hx] at h
      exact h
     ·intro _ hx v W' h hy
      cases hy)
   refine pO ?_
   clear hW hL b1 b2
   rintro W23 hW z24 hL
   simp only[ndR]
   intros
   repeat (rename Am _ _ _ _=>hgd;clear hgd)
   simp only[ndS]
   refine wpList_nil ?_
   obtain⟨⟨b1,yb1,k1,f1⟩,⟨b2,yb2,k2,f2⟩,-⟩:=hL
   rw[hv.out]
   cases F with
   |false=>
    go_wp2
    go_ret
    exact⟨by rw[hno.out (by trivial)];rfl,hW0.trans (hW.mono hz)⟩
   |true=>
    go_wp2
    rw[show (i:Int)+1=((i+1:Nat):Int) by omega]
    refine⟨?_,by simp[Ag];omega⟩
    unfold V0
    exact⟨hW0.trans (hW.mono hz),b1,i+1,Ac rfl,hst.out (by trivial),by omega⟩
  ·obtain⟨j,hj⟩:∃j,i=j+1:=⟨i-1,by omega⟩
   obtain⟨n0,tn⟩:∃x,rows[j]? =some x:=⟨rows[j]'(by omega),List.getElem?_eq_getElem (by omega)⟩
   obtain⟨b9,o9,p1,c1,e9,h2,-,-⟩:=hR.at' j _ tn
   injection e9 with e9
   injection e9 with e91 e92 _
   subst e91
   subst e92
   have E0:=Hd (show decide (0<i)=true from decide_eq_true (by omega))
   have E1:=Hd (show wrap64 ((i:Int)-1)=(j:Int) by rw[Ak];omega)
   have g1:j<rows.length:=by omega
   have hv:=Hd (show (!PB|| !Op.bytesLess n0.name.toList r0.name.toList)= !F by rw[<-hF,hj];simp[Pz,hPB,tn,Bool.not_and])
   unfold Dw at h2
   clear hps hpc hPB tr hi h0 h1 hj tn hF hnx
   have k1:=b1.cell
   have f1:=b1.frozen
   go_upto_region 4 with(fail)
   clear k1 f1
   refine Ab W (Bc w.heap.size #[.slice (some ⟨b0,o0,none⟩) rows.length cap] 27<|Bc W.heap.size #[.string r0.name,r0.eps,r0.floor,r0.last,r0.scale,.slice p0 r0.pts.length c0] 35<|Rc (fun W'=>Ck W' b0 (o0+j*6) #[.string n0.name,n0.eps,n0.floor,n0.last,n0.scale,.slice p1 n0.pts.length c1])<|Bz) ?_ (hI:=by exact Aa) (hR:=(Bc.mk (by exact Ad)<|Bc.mk (by exact Ad)<|Rc.mk (by first|exact⟨h2⟩|(exact(Ck.mk h2).below Aa))<|trivial))
   clear b1
   rintro W21 hW z22 hL
   obtain⟨⟨b1,yb1,k1,f1⟩,⟨b2,yb2,k2,f2⟩,b3,-⟩:=id hL
   clear k1 f1 k2 f2
   refine Bw 19 37 hW hL ?_
   refine dE (fun W' hC=>aI E0.out (aI Fg (aI hlt (aI (Nat.not_le.2 hlt) (aI E1.out (aI g1 (aI (Nat.not_le.2 g1) (hC.2.2.2.1.at' 0 _ rfl)))))))) ?_
   refine cE (fun W' hC=>aI E0.out (aI Fg (aI hlt (aI (Nat.not_le.2 hlt) (aI E1.out (aI g1 (aI (Nat.not_le.2 g1) (hC.2.2.2.1.at' 0 _ rfl)))))))) (fun W' hC=>cP.out W' (hW.trans (hC.1.of_priv hW.size))) ?_
   iterate 2 refine dE (fun W' hC=>aI E0.out (aI Fg (aI hlt (aI (Nat.not_le.2 hlt) (aI E1.out (aI g1 (aI (Nat.not_le.2 g1) (hC.2.2.2.1.at' 0 _ rfl)))))))) ?_
   iterate 3 refine gE (fun W' hC=>aI E0.out (aI Fg (aI hlt (aI (Nat.not_le.2 hlt) (aI E1.out (aI g1 (aI (Nat.not_le.2 g1) (hC.2.2.2.1.at' 0 _ rfl)))))))) ?_
   iterate 10 refine gF (fun W' hC=>aI E0.out (aI Fg (aI hlt (aI (Nat.not_le.2 hlt) (aI E1.out (aI g1 (aI (Nat.not_le.2 g1) (hC.2.2.2.1.at' 0 _ rfl)))))))) ?_
   refine pgA ?_
   refine pO ?_
   clear hW hL b1 b2 b3
   rintro W23 hW z24 hL
   simp only[ndR]
   intros
   repeat (rename Am _ _ _ _=>hgd;clear hgd)
   simp only[ndS]
   refine wpList_nil ?_
   obtain⟨⟨b1,yb1,k1,f1⟩,⟨b2,yb2,k2,f2⟩,b3,-⟩:=hL
   rw[hv.out]
   cases F with
   |false=>
    go_wp2
    go_ret
    exact⟨by rw[hno.out (by trivial)];rfl,hW0.trans (hW.mono hz)⟩
   |true=>
    go_wp2
    rw[show (i:Int)+1=((i+1:Nat):Int) by omega]
    refine⟨?_,by simp[Ag];omega⟩
    unfold V0
    exact⟨hW0.trans (hW.mono hz),b1,i+1,Ac rfl,hst.out (by trivial),by omega⟩
 ·obtain rfl:i=rows.length:=by omega
  have hres:=Hd (show RES=decide (rows.length<=8) by rw[<-hRES.out,Gi,hi,Bool.true_and])
  clear hi hRES
  have k1:=b1.cell
  go_wp2
  go_ret
  exact⟨by rw[hres.out,show decide ((rows.length:Int)<=8)=decide (rows.length<=8) by rw[Bool.eq_iff_iff];simp;omega];rfl,hW0⟩
end Go.Proofs.YtdeghcgakkhbmaaGreat
