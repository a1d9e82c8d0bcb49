/- Parts of the proof that follows. No condition. -/
import Derived.Test.YtdeghcgakkhbmaaGreatSd11
set_option maxRecDepth 100000
set_option maxHeartbeats 8000000
set_option linter.unusedSimpArgs false
set_option linter.unusedVariables false
namespace Go.Proofs.YtdeghcgakkhbmaaGreat
open Go.RowKit
def N6 (rows:List A8) (i:Nat) (s:A8):Bool:=B8 s&&match i with
 |0=>true
 |j+1=>match rows[j]? with
  |some q=>Op.bytesLess q.name.toList s.name.toList
  |none=>true
def okS (rows:List A8):Nat->Bool
 |0=>true
 |i+1=>okS rows i&&match rows[i]? with
  |some s=>N6 rows i s
  |none=>true
theorem Rm {rows:List A8} {i:Nat} {s:A8} (hr:rows[i]? =some s):okS rows (i+1)=(okS rows i&&N6 rows i s):=by
 simp only[okS,hr]
theorem Ys {rows:List A8} {i:Nat} (h:okS rows i=false):∀k,okS rows (i+k)=false
 |0=>h
 |k+1=>by
  rw[<-Nat.add_assoc]
  simp only[okS,Ys h k,Bool.false_and]
theorem okS_no {rows:List A8} {i:Nat} (h:okS rows i=false) (hi:i<=rows.length):okS rows rows.length=false:=by
 have:=Ys h (rows.length-i)
 rwa [show i+(rows.length-i)=rows.length by omega] at this
theorem okS_at {rows:List A8} (h:okS rows rows.length=true) {i:Nat} {s:A8} (hs:rows[i]? =some s):B8 s=true:=by
 have hi:=(List.getElem?_eq_some_iff.1 hs).1
 cases h1:okS rows (i+1) with
 |false=>rw[okS_no h1 (by omega)] at h;cases h
 |true=>
  rw[Rm hs,Bool.and_eq_true] at h1
  unfold N6 at h1
  exact(Bool.and_eq_true _ _▸h1.2).1
def Fh (rows:List A8):Bool:=okS rows rows.length&&decide (rows.length<=8)
def FewM (l:List A8):Prop:=∀(i:Nat) s,l[i]? =some s->s.name.size<=1000
def Vu (w:World) (p:Option Addr) (cap:Nat) (rows:List A8) (a':Act) (W:World):Prop:=
 Below w.heap.size w W/\Blk W w.heap.size #[.slice p rows.length cap] 24/\∃i:Nat,(∃u:Nat->Value,a'= {tmps:= #[u 0,.pointer (some ⟨w.heap.size,0,none⟩),.bool false,.int .i64 (i:Int),u 4,u 5,u 6,u 7,u 8,u 9,u 10,u 11,u 12,u 13,u 14,u 15,u 16,u 17,u 18,u 19,u 20,u 21,u 22,u 23,u 24,u 25,u 26,u 27,u 28,u 29,u 30,u 31,u 32,u 33,u 34,u 35,u 36,u 37,u 38,u 39,u 40,u 41],defers:= []})/\okS rows i=true/\i<=rows.length
def Vv (w:World) (p:Option Addr) (cap:Nat) (rows:List A8) (a':Act) (W:World):Prop:=
 Below w.heap.size w W/\Blk W w.heap.size #[.slice p rows.length cap] 24/\∃i:Nat,(∃u:Nat->Value,a'= {tmps:= #[u 0,.pointer (some ⟨w.heap.size,0,none⟩),.int .i64 0,u 3,u 4,u 5,u 6,u 7,u 8,u 9,.slice p rows.length cap,.int .i64 (rows.length:Int),.int .i64 (i:Int),u 13,u 14,u 15,u 16,u 17,u 18,u 19,u 20,u 21,u 22,u 23,u 24,u 25,u 26,u 27,u 28,u 29,u 30,u 31,u 32,u 33,u 34,u 35,u 36],defers:= []})/\okS rows i=true/\i<=rows.length
theorem Xe (p:Option Addr) (cap:Nat) (rows:List A8) (w:World) (h:Gr w p rows) (hfn:FewM rows) (hmx:rows.length<=100):
  Cb 39 #[.agg #[.slice p rows.length cap]] w (.bool (Fh rows)):=by
 obtain⟨RES,hRES⟩:∃x,Fh rows=x:=⟨_,rfl⟩
 rw[hRES]
 replace hRES:=Hd hRES
 go_enter Tryz.func39,Tryz.ntmps39
 go_upto_region 1 with(fail)
 refine Ab w (Bc w.heap.size #[.slice p rows.length cap] 24<|Bz) ?_
 rintro W1 hW z2 ⟨⟨b1,yb1,k1,f1⟩,-⟩
 go_wp2
 clear k1 f1
 refine wp_loop (Vu w p cap rows) (fun a' _=>rows.length-(Ag (a'.tmps.getD 3 undef)).toNat) ?_ ?_
 ·unfold Vu
  exact⟨hW,b1,0,Ac rfl,rfl,Nat.zero_le _⟩
 clear b1 hW
 rintro a' W ⟨hW0,b1,i,⟨u,rfl⟩,hi,hi'⟩
 have hz:=hW0.size
 have yb1:=b1.lt
 rcases Nat.lt_or_ge i rows.length with hlt|hge
 ·obtain⟨r0,tr⟩:∃x,rows[i]? =some x:=⟨rows[i]'(by omega),List.getElem?_eq_getElem (by omega)⟩
  have hR:=h.below hW0
  obtain⟨b0,o0,p0,c0,q0,d0,rfl,h1,hps⟩:=hR.at' i _ tr
  have hnx:=Rm tr
  rw[hi,Bool.true_and] at hnx
  have hf2:=hfn i _ tr
  have cP:=fun W' (hW':Below W.heap.size W W')=>c_r24Right r0 p0 c0 q0 d0 W' (hps.below hW') hf2
  obtain⟨PB,hPB⟩:∃B,B8 r0=B:=⟨_,rfl⟩
  obtain⟨F,hF⟩:∃B,N6 rows i r0=B:=⟨_,rfl⟩
  rw[hF] at hnx
  have hno:=Hd (fun(e:F=false)=>(show RES=false by rw[<-hRES.out,Fh,okS_no (hnx.trans e) hlt,Bool.false_and]))
  have hst:=Hd (fun(e:F=true)=>(show okS rows (i+1)=true from hnx.trans e))
  rw[hPB] at cP
  unfold Dy at cP h1
  replace cP:=Hd cP
  by_cases h0:i=0
  ·have E0:=Hd (show decide (0<i)=false from decide_eq_false (by omega))
   have hv:=Hd (show (!PB||false)= !F by rw[<-hF,h0];simp[N6,hPB])
   clear hps hPB tr hi h0 hF hnx
   have k1:=b1.cell
   have f1:=b1.frozen
   go_upto_region 4 with(fail)
   clear k1 f1
   refine Ab W (Bc w.heap.size #[.slice (some ⟨b0,o0,none⟩) rows.length cap] 24<|Rc (fun W'=>Ck W' b0 (o0+i*7) #[.string r0.name,r0.eps,r0.floor,r0.last,r0.scale,.slice p0 r0.segs.length c0,.slice q0 r0.opn.length d0])<|Bz) ?_ (hI:=by exact Aa) (hR:=(Bc.mk (by exact Ad)<|Rc.mk (by first|exact⟨h1⟩|(exact(Ck.mk h1).below Aa))<|trivial))
   clear b1
   rintro W21 hW z22 hL
   obtain⟨⟨b1,yb1,k1,f1⟩,b2,-⟩:=id hL
   clear k1 f1
   refine Bw 27 42 hW hL ?_
   iterate 5 refine dE (fun W' hC=>aI hlt (aI (Nat.not_le.2 hlt) (aI (hC.2.2.1.at' 0 _ rfl) (aI (hC.2.2.1.at' 1 _ rfl) (aI (hC.2.2.1.at' 2 _ rfl) (aI (hC.2.2.1.at' 3 _ rfl) (aI (hC.2.2.1.at' 4 _ rfl) (aI (hC.2.2.1.at' 5 _ rfl) (aI (hC.2.2.1.at' 6 _ rfl) E0.out))))))))) ?_
   refine cE (fun W' hC=>aI hlt (aI (Nat.not_le.2 hlt) (aI (hC.2.2.1.at' 0 _ rfl) (aI (hC.2.2.1.at' 1 _ rfl) (aI (hC.2.2.1.at' 2 _ rfl) (aI (hC.2.2.1.at' 3 _ rfl) (aI (hC.2.2.1.at' 4 _ rfl) (aI (hC.2.2.1.at' 5 _ rfl) (aI (hC.2.2.1.at' 6 _ rfl) E0.out))))))))) (fun W' hC=>cP.out W' (hW.trans (hC.1.of_priv hW.size))) ?_
   iterate 2 refine dE (fun W' hC=>aI hlt (aI (Nat.not_le.2 hlt) (aI (hC.2.2.1.at' 0 _ rfl) (aI (hC.2.2.1.at' 1 _ rfl) (aI (hC.2.2.1.at' 2 _ rfl) (aI (hC.2.2.1.at' 3 _ rfl) (aI (hC.2.2.1.at' 4 _ rfl) (aI (hC.2.2.1.at' 5 _ rfl) (aI (hC.2.2.1.at' 6 _ rfl) E0.out))))))))) ?_
   iterate 3 refine gE (fun W' hC=>aI hlt (aI (Nat.not_le.2 hlt) (aI (hC.2.2.1.at' 0 _ rfl) (aI (hC.2.2.1.at' 1 _ rfl) (aI (hC.2.2.1.at' 2 _ rfl) (aI (hC.2.2.1.at' 3 _ rfl) (aI (hC.2.2.1.at' 4 _ rfl) (aI (hC.2.2.1.at' 5 _ rfl) (aI (hC.2.2.1.at' 6 _ rfl) E0.out))))))))) ?_
   iterate 15
    first
    |(
     apply Ai (c:=undef) (hg:=rfl) (hd:=rfl) (hal:=rfl)
     ·intro v W' h
      exact h
     ·intro hp hx
      cases hx)
    |(
     apply Dp (p:=true) (x:=false) (y:=false) (ho:=rfl) (hg:=rfl) (hd:=rfl)
     ·intro v W' h
      simp[Af,Det,Am] at h
      simp
      exact h
     ·intro _ hx v W' h
      simp[Af,Det,Am,hx] at h
      exact h
     ·intro _ hx v W' h hy
      cases hy)
   refine pO ?_
   clear hW hL b1 b2
   rintro W23 hW z24 hL
   simp only[ndR]
   intros
   repeat (rename Am _ _ _ _=>hgd;clear hgd)
   simp only[ndS]
   refine wpList_nil ?_
   obtain⟨⟨b1,yb1,k1,f1⟩,b2,-⟩:=hL
   rw[hv.out]
   cases F with
   |false=>
    go_wp2
    go_ret
    exact⟨by rw[hno.out (by trivial)];rfl,hW0.trans (hW.mono hz)⟩
   |true=>
    go_wp2
    rw[show (i:Int)+1=((i+1:Nat):Int) by omega]
    refine⟨?_,by simp[Ag];omega⟩
    unfold Vu
    exact⟨hW0.trans (hW.mono hz),b1,i+1,Ac rfl,hst.out (by trivial),by omega⟩
  ·obtain⟨j,hj⟩:∃j,i=j+1:=⟨i-1,by omega⟩
   obtain⟨n0,tn⟩:∃x,rows[j]? =some x:=⟨rows[j]'(by omega),List.getElem?_eq_getElem (by omega)⟩
   obtain⟨b9,o9,p1,c1,q1,d1,e9,h2,-⟩:=hR.at' j _ tn
   injection e9 with e9
   injection e9 with e91 e92 _
   subst e91
   subst e92
   have E0:=Hd (show decide (0<i)=true from decide_eq_true (by omega))
   have E1:=Hd (show wrap64 ((i:Int)-1)=(j:Int) by rw[Ak];omega)
   have g1:j<rows.length:=by omega
   have hv:=Hd (show (!PB|| !Op.bytesLess n0.name.toList r0.name.toList)= !F by rw[<-hF,hj];simp[N6,hPB,tn,Bool.not_and])
   unfold Dy at h2
   clear hps hPB tr hi h0 hj tn hF hnx
   have k1:=b1.cell
   have f1:=b1.frozen
   go_upto_region 4 with(fail)
   clear k1 f1
   refine Ab W (Bc w.heap.size #[.slice (some ⟨b0,o0,none⟩) rows.length cap] 24<|Rc (fun W'=>Ck W' b0 (o0+i*7) #[.string r0.name,r0.eps,r0.floor,r0.last,r0.scale,.slice p0 r0.segs.length c0,.slice q0 r0.opn.length d0])<|Rc (fun W'=>Ck W' b0 (o0+j*7) #[.string n0.name,n0.eps,n0.floor,n0.last,n0.scale,.slice p1 n0.segs.length c1,.slice q1 n0.opn.length d1])<|Bz) ?_ (hI:=by exact Aa) (hR:=(Bc.mk (by exact Ad)<|Rc.mk (by first|exact⟨h1⟩|(exact(Ck.mk h1).below Aa))<|Rc.mk (by first|exact⟨h2⟩|(exact(Ck.mk h2).below Aa))<|trivial))
   clear b1
   rintro W21 hW z22 hL
   obtain⟨⟨b1,yb1,k1,f1⟩,b2,b3,-⟩:=id hL
   clear k1 f1
   refine Bw 27 42 hW hL ?_
   iterate 5 refine dE (fun W' hC=>aI hlt (aI (Nat.not_le.2 hlt) (aI (hC.2.2.1.at' 0 _ rfl) (aI (hC.2.2.1.at' 1 _ rfl) (aI (hC.2.2.1.at' 2 _ rfl) (aI (hC.2.2.1.at' 3 _ rfl) (aI (hC.2.2.1.at' 4 _ rfl) (aI (hC.2.2.1.at' 5 _ rfl) (aI (hC.2.2.1.at' 6 _ rfl) (aI E0.out (aI Fg (aI E1.out (aI g1 (aI (Nat.not_le.2 g1) (hC.2.2.2.1.at' 0 _ rfl))))))))))))))) ?_
   refine cE (fun W' hC=>aI hlt (aI (Nat.not_le.2 hlt) (aI (hC.2.2.1.at' 0 _ rfl) (aI (hC.2.2.1.at' 1 _ rfl) (aI (hC.2.2.1.at' 2 _ rfl) (aI (hC.2.2.1.at' 3 _ rfl) (aI (hC.2.2.1.at' 4 _ rfl) (aI (hC.2.2.1.at' 5 _ rfl) (aI (hC.2.2.1.at' 6 _ rfl) (aI E0.out (aI Fg (aI E1.out (aI g1 (aI (Nat.not_le.2 g1) (hC.2.2.2.1.at' 0 _ rfl))))))))))))))) (fun W' hC=>cP.out W' (hW.trans (hC.1.of_priv hW.size))) ?_
   iterate 2 refine dE (fun W' hC=>aI hlt (aI (Nat.not_le.2 hlt) (aI (hC.2.2.1.at' 0 _ rfl) (aI (hC.2.2.1.at' 1 _ rfl) (aI (hC.2.2.1.at' 2 _ rfl) (aI (hC.2.2.1.at' 3 _ rfl) (aI (hC.2.2.1.at' 4 _ rfl) (aI (hC.2.2.1.at' 5 _ rfl) (aI (hC.2.2.1.at' 6 _ rfl) (aI E0.out (aI Fg (aI E1.out (aI g1 (aI (Nat.not_le.2 g1) (hC.2.2.2.1.at' 0 _ rfl))))))))))))))) ?_
   iterate 3 refine gE (fun W' hC=>aI hlt (aI (Nat.not_le.2 hlt) (aI (hC.2.2.1.at' 0 _ rfl) (aI (hC.2.2.1.at' 1 _ rfl) (aI (hC.2.2.1.at' 2 _ rfl) (aI (hC.2.2.1.at' 3 _ rfl) (aI (hC.2.2.1.at' 4 _ rfl) (aI (hC.2.2.1.at' 5 _ rfl) (aI (hC.2.2.1.at' 6 _ rfl) (aI E0.out (aI Fg (aI E1.out (aI g1 (aI (Nat.not_le.2 g1) (hC.2.2.2.1.at' 0 _ rfl))))))))))))))) ?_
   iterate 14 refine gF (fun W' hC=>aI hlt (aI (Nat.not_le.2 hlt) (aI (hC.2.2.1.at' 0 _ rfl) (aI (hC.2.2.1.at' 1 _ rfl) (aI (hC.2.2.1.at' 2 _ rfl) (aI (hC.2.2.1.at' 3 _ rfl) (aI (hC.2.2.1.at' 4 _ rfl) (aI (hC.2.2.1.at' 5 _ rfl) (aI (hC.2.2.1.at' 6 _ rfl) (aI E0.out (aI Fg (aI E1.out (aI g1 (aI (Nat.not_le.2 g1) (hC.2.2.2.1.at' 0 _ rfl))))))))))))))) ?_
   refine pgA ?_
   refine pO ?_
   clear hW hL b1 b2 b3
   rintro W23 hW z24 hL
   simp only[ndR]
   intros
   repeat (rename Am _ _ _ _=>hgd;clear hgd)
   simp only[ndS]
   refine wpList_nil ?_
   obtain⟨⟨b1,yb1,k1,f1⟩,b2,b3,-⟩:=hL
   rw[hv.out]
   cases F with
   |false=>
    go_wp2
    go_ret
    exact⟨by rw[hno.out (by trivial)];rfl,hW0.trans (hW.mono hz)⟩
   |true=>
    go_wp2
    rw[show (i:Int)+1=((i+1:Nat):Int) by omega]
    refine⟨?_,by simp[Ag];omega⟩
    unfold Vu
    exact⟨hW0.trans (hW.mono hz),b1,i+1,Ac rfl,hst.out (by trivial),by omega⟩
 ·obtain rfl:i=rows.length:=by omega
  have hres:=Hd (show RES=decide (rows.length<=8) by rw[<-hRES.out,Fh,hi,Bool.true_and])
  clear hi hRES
  have k1:=b1.cell
  go_wp2
  go_ret
  exact⟨by rw[hres.out,show decide ((rows.length:Int)<=8)=decide (rows.length<=8) by rw[Bool.eq_iff_iff];simp;omega];rfl,hW0⟩
def O8 (rows:List A8):Int:=if Fh rows=true then 0 else 370
theorem Q9 {rows:List A8} (h:Fh rows=true):O8 rows=0:=by unfold O8;rw[if_pos h]
theorem O7 {rows:List A8} (h:Fh rows=false):O8 rows=370:=by unfold O8;rw[if_neg (by rw[h];simp)]
theorem c_shCheck (p:Option Addr) (cap:Nat) (rows:List A8) (w:World) (h:Gr w p rows) (hmx:rows.length<=100):
  Cb 36 #[.agg #[.slice p rows.length cap]] w (.int .i64 (O8 rows)):=by
 obtain⟨RES,hRES⟩:∃x:Int,O8 rows=x:=⟨_,rfl⟩
 rw[hRES]
 replace hRES:=Hd hRES
 rcases Nat.lt_or_ge 8 rows.length with h8|h8
 ·have hres:=Hd (show RES=370 by rw[<-hRES.out];exact O7 (by unfold Fh;rw[decide_eq_false (by omega),Bool.and_false]))
  have D8:=Hd (show decide ((8:Int)<(rows.length:Int))=true from decide_eq_true (by omega))
  go_enter Tryz.func36,Tryz.ntmps36
  go_upto_region 1 with(fail)
  refine Ab w (Bc w.heap.size #[.slice p rows.length cap] 24<|Bz) ?_
  rintro W1 hW z2 ⟨⟨b1,yb1,k1,f1⟩,-⟩
  go_wp2
  clear k1 f1
  go_ret
  exact⟨by rw[hres.out];rfl,hW⟩
 go_enter Tryz.func36,Tryz.ntmps36
 go_upto_region 1 with(fail)
 refine Ab w (Bc w.heap.size #[.slice p rows.length cap] 24<|Bz) ?_
 rintro W1 hW z2 ⟨⟨b1,yb1,k1,f1⟩,-⟩
 go_wp2
 clear k1 f1
 refine wp_loop (Vv w p cap rows) (fun a' _=>rows.length-(Ag (a'.tmps.getD 12 undef)).toNat) ?_ ?_
 ·unfold Vv
  exact⟨hW,b1,0,Ac rfl,rfl,Nat.zero_le _⟩
 clear b1 hW
 rintro a' W ⟨hW0,b1,i,⟨u,rfl⟩,hi,hi'⟩
 have hz:=hW0.size
 have yb1:=b1.lt
 rcases Nat.lt_or_ge i rows.length with hlt|hge
 ·obtain⟨r0,tr⟩:∃x,rows[i]? =some x:=⟨rows[i]'(by omega),List.getElem?_eq_getElem (by omega)⟩
  have hR:=h.below hW0
  obtain⟨b0,o0,p0,c0,q0,d0,rfl,h1,hps⟩:=hR.at' i _ tr
  have hnx:=Rm tr
  rw[hi,Bool.true_and] at hnx
  have cP:=fun W' (hW':Below W.heap.size W W')=>Vb r0 p0 q0 c0 d0 W' (hps.below hW')
  obtain⟨PB,hPB⟩:∃B,B8 r0=B:=⟨_,rfl⟩
  unfold F6 at cP
  rw[hPB] at cP
  obtain⟨EV,hEV⟩:∃B:Int,(if PB=true then 0 else 340)=B:=⟨_,rfl⟩
  rw[hEV] at cP
  obtain⟨F,hF⟩:∃B,N6 rows i r0=B:=⟨_,rfl⟩
  rw[hF] at hnx
  have hno:=Hd (fun(e:F=false)=>(show RES=370 by rw[<-hRES.out];exact O7 (by rw[Fh,okS_no (hnx.trans e) hlt,Bool.false_and])))
  have hst:=Hd (fun(e:F=true)=>(show okS rows (i+1)=true from hnx.trans e))
  have F0:(EV !=0)= !PB:=by rw[<-hEV];cases PB<;>rfl
  unfold Dy at cP h1
  replace cP:=Hd cP
  have s0:=h1 0 _ rfl
  have s1:=h1 1 _ rfl
  have s2:=h1 2 _ rfl
  have s3:=h1 3 _ rfl
  have s4:=h1 4 _ rfl
  have s5:=h1 5 _ rfl
  have s6:=h1 6 _ rfl
  simp only[Nat.add_zero] at s0
  by_cases h0:i=0
  ·have E0:=Hd (show decide (0<i)=false from decide_eq_false (by omega))
   have hv:=Hd (show (EV !=0||false)= !F by rw[F0,<-hF,h0];simp[N6,hPB])
   clear hps hPB tr hi h0 h1 hF hnx hEV F0
   have k1:=b1.cell
   have f1:=b1.frozen
   go_upto_region 6 with(fail)
   clear k1 f1
   refine Ab W (Bc w.heap.size #[.slice (some ⟨b0,o0,none⟩) rows.length cap] 24<|Bc W.heap.size #[.string r0.name,r0.eps,r0.floor,r0.last,r0.scale,.slice p0 r0.segs.length c0,.slice q0 r0.opn.length d0] 79<|Bz) ?_
   clear b1
   rintro W21 hW z22 hL
   obtain⟨⟨b1,yb1,k1,f1⟩,⟨b2,yb2,k2,f2⟩,-⟩:=id hL
   clear k1 f1 k2 f2
   refine Bw 19 37 hW hL ?_
   refine dE (fun W' hC=>E0.out) ?_
   refine cE (fun W' hC=>E0.out) (fun W' hC=>cP.out W' (hW.trans (hC.1.of_priv hW.size))) ?_
   iterate 2 refine dE (fun W' hC=>E0.out) ?_
   iterate 3 refine gE (fun W' hC=>E0.out) ?_
   iterate 11
    first
    |(
     apply Ai (c:=undef) (hg:=rfl) (hd:=rfl) (hal:=rfl)
     ·intro v W' h
      exact h
     ·intro hp hx
      cases hx)
    |(
     apply Dp (p:=true) (x:=false) (y:=false) (ho:=rfl) (hg:=rfl) (hd:=rfl)
     ·intro v W' h
      simp[Af,Det,Am] at h
      simp
      exact h
     ·intro _ hx v W' h
      simp[Af,Det,Am,hx] at h
      exact h
     ·intro _ hx v W' h hy
      cases hy)
   refine pO ?_
   clear hW hL b1 b2
   rintro W23 hW z24 hL
   simp only[ndR]
   intros
   repeat (rename Am _ _ _ _=>hgd;clear hgd)
   simp only[ndS]
   refine wpList_nil ?_
   obtain⟨⟨b1,yb1,k1,f1⟩,⟨b2,yb2,k2,f2⟩,-⟩:=hL
   rw[hv.out]
   cases F with
   |false=>
    go_wp2
    go_ret
    exact⟨by rw[hno.out (by trivial)];rfl,hW0.trans (hW.mono hz)⟩
   |true=>
    go_wp2
    rw[show (i:Int)+1=((i+1:Nat):Int) by omega]
    refine⟨?_,by simp[Ag];omega⟩
    unfold Vv
    exact⟨hW0.trans (hW.mono hz),b1,i+1,Ac rfl,hst.out (by trivial),by omega⟩
  ·obtain⟨j,hj⟩:∃j,i=j+1:=⟨i-1,by omega⟩
   obtain⟨n0,tn⟩:∃x,rows[j]? =some x:=⟨rows[j]'(by omega),List.getElem?_eq_getElem (by omega)⟩
   obtain⟨b9,o9,p1,c1,q1,d1,e9,h2,-⟩:=hR.at' j _ tn
   injection e9 with e9
   injection e9 with e91 e92 _
   subst e91
   subst e92
   have E0:=Hd (show decide (0<i)=true from decide_eq_true (by omega))
   have E1:=Hd (show wrap64 ((i:Int)-1)=(j:Int) by rw[Ak];omega)
   have g1:j<rows.length:=by omega
   have hv:=Hd (show (EV !=0|| !Op.bytesLess n0.name.toList r0.name.toList)= !F by rw[F0,<-hF,hj];simp[N6,hPB,tn,Bool.not_and])
   unfold Dy at h2
   clear hps hPB tr hi h0 h1 hj tn hF hnx hEV F0
   have k1:=b1.cell
   have f1:=b1.frozen
   go_upto_region 6 with(fail)
   clear k1 f1
   refine Ab W (Bc w.heap.size #[.slice (some ⟨b0,o0,none⟩) rows.length cap] 24<|Bc W.heap.size #[.string r0.name,r0.eps,r0.floor,r0.last,r0.scale,.slice p0 r0.segs.length c0,.slice q0 r0.opn.length d0] 79<|Rc (fun W'=>Ck W' b0 (o0+j*7) #[.string n0.name,n0.eps,n0.floor,n0.last,n0.scale,.slice p1 n0.segs.length c1,.slice q1 n0.opn.length d1])<|Bz) ?_ (hI:=by exact Aa) (hR:=(Bc.mk (by exact Ad)<|Bc.mk (by exact Ad)<|Rc.mk (by first|exact⟨h2⟩|(exact(Ck.mk h2).below Aa))<|trivial))
   clear b1
   rintro W21 hW z22 hL
   obtain⟨⟨b1,yb1,k1,f1⟩,⟨b2,yb2,k2,f2⟩,b3,-⟩:=id hL
   clear k1 f1 k2 f2
   refine Bw 19 37 hW hL ?_
   refine dE (fun W' hC=>aI E0.out (aI Fg (aI hlt (aI (Nat.not_le.2 hlt) (aI E1.out (aI g1 (aI (Nat.not_le.2 g1) (hC.2.2.2.1.at' 0 _ rfl)))))))) ?_
   refine cE (fun W' hC=>aI E0.out (aI Fg (aI hlt (aI (Nat.not_le.2 hlt) (aI E1.out (aI g1 (aI (Nat.not_le.2 g1) (hC.2.2.2.1.at' 0 _ rfl)))))))) (fun W' hC=>cP.out W' (hW.trans (hC.1.of_priv hW.size))) ?_
   iterate 2 refine dE (fun W' hC=>aI E0.out (aI Fg (aI hlt (aI (Nat.not_le.2 hlt) (aI E1.out (aI g1 (aI (Nat.not_le.2 g1) (hC.2.2.2.1.at' 0 _ rfl)))))))) ?_
   iterate 3 refine gE (fun W' hC=>aI E0.out (aI Fg (aI hlt (aI (Nat.not_le.2 hlt) (aI E1.out (aI g1 (aI (Nat.not_le.2 g1) (hC.2.2.2.1.at' 0 _ rfl)))))))) ?_
   iterate 10 refine gF (fun W' hC=>aI E0.out (aI Fg (aI hlt (aI (Nat.not_le.2 hlt) (aI E1.out (aI g1 (aI (Nat.not_le.2 g1) (hC.2.2.2.1.at' 0 _ rfl)))))))) ?_
   refine pgA ?_
   refine pO ?_
   clear hW hL b1 b2 b3
   rintro W23 hW z24 hL
   simp only[ndR]
   intros
   repeat (rename Am _ _ _ _=>hgd;clear hgd)
   simp only[ndS]
   refine wpList_nil ?_
   obtain⟨⟨b1,yb1,k1,f1⟩,⟨b2,yb2,k2,f2⟩,b3,-⟩:=hL
   rw[hv.out]
   cases F with
   |false=>
    go_wp2
    go_ret
    exact⟨by rw[hno.out (by trivial)];rfl,hW0.trans (hW.mono hz)⟩
   |true=>
    go_wp2
    rw[show (i:Int)+1=((i+1:Nat):Int) by omega]
    refine⟨?_,by simp[Ag];omega⟩
    unfold Vv
    exact⟨hW0.trans (hW.mono hz),b1,i+1,Ac rfl,hst.out (by trivial),by omega⟩
 ·obtain rfl:i=rows.length:=by omega
  have hres:=Hd (show RES=0 by rw[<-hRES.out];exact Q9 (by rw[Fh,hi,decide_eq_true h8];rfl))
  clear hi hRES
  have k1:=b1.cell
  go_wp2
  go_ret
  exact⟨by rw[hres.out];rfl,hW0⟩
attribute [local simp] Oper.looksAt Op.operands Call.operands Af Det Am
def ckRel (w:World) (p:Option Addr) (cap:Nat) (rows:List At) (a':Act) (W:World):Prop:=
 Below w.heap.size w W/\Blk W w.heap.size #[.slice p rows.length cap] 27/\∃(i:Nat) (ok:Bool),(∃u:Nat->Value,a'= {tmps:= #[u 0,.pointer (some ⟨w.heap.size,0,none⟩),.int .i64 0,.bool ok,u 4,u 5,u 6,u 7,u 8,u 9,u 10,.slice p rows.length cap,.int .i64 (rows.length:Int),.int .i64 (i:Int),u 14,u 15,u 16,u 17,u 18,u 19,u 20,u 21,u 22,u 23,u 24,u 25,u 26,u 27,u 28,u 29,u 30,u 31,u 32,u 33,u 34,u 35,u 36,u 37,u 38,u 39,u 40,u 41,u 42],defers:= []})/\ok=(decide (rows.length<=8)&&okN rows i)/\i<=rows.length
theorem c_mdCheck (p:Option Addr) (cap:Nat) (rows:List At) (w:World) (h:D3 w p rows) (hfw:Tu rows) (hmx:rows.length<=100):
  Cb 30 #[.agg #[.slice p rows.length cap]] w (.int .i64 (if Gi rows=true then 0 else 380)):=by
 obtain⟨RES,hRES⟩:∃x:Int,(if Gi rows=true then 0 else 380)=x:=⟨_,rfl⟩
 rw[hRES]
 replace hRES:=Hd hRES
 go_enter Tryz.func30,Tryz.ntmps30
 go_upto_region 1 with(fail)
 refine Ab w (Bc w.heap.size #[.slice p rows.length cap] 27<|Bz) ?_
 rintro W1 hW z2 ⟨⟨b1,yb1,k1,f1⟩,-⟩
 go_wp2
 clear k1 f1
 refine wp_loop (ckRel w p cap rows) (fun a' _=>rows.length-(Ag (a'.tmps.getD 13 undef)).toNat) ?_ ?_
 ·unfold ckRel
  exact⟨hW,b1,0,_,Ac rfl,by rw[show decide ((rows.length:Int)<=8)=decide (rows.length<=8) by rw[Bool.eq_iff_iff];simp;omega];simp[okN],Nat.zero_le _⟩
 clear b1 hW
 rintro a' W ⟨hW0,b1,i,ok,⟨u,rfl⟩,hi,hi'⟩
 have hz:=hW0.size
 have yb1:=b1.lt
 rcases Nat.lt_or_ge i rows.length with hlt|hge
 ·obtain⟨r0,tr⟩:∃x,rows[i]? =some x:=⟨rows[i]'(by omega),List.getElem?_eq_getElem (by omega)⟩
  have hR:=h.below hW0
  obtain⟨b0,o0,p0,c0,rfl,h1,hps,hpc⟩:=hR.at' i _ tr
  have hf1:=hfw i _ tr
  have hnx:=Rq tr
  have cP:=fun W' (hW':Below W.heap.size W W')=>Oo r0 p0 c0 W' (hps.below hW') hf1
  obtain⟨PB,hPB⟩:∃B,G5 r0=B:=⟨_,rfl⟩
  rw[hPB] at cP
  obtain⟨EV,hEV⟩:∃B:Int,(if PB=true then 0 else 380)=B:=⟨_,rfl⟩
  rw[hEV] at cP
  have hE9:PB=(EV==0):=by rw[<-hEV];cases PB<;>rfl
  unfold Dw at cP h1
  replace cP:=Hd cP
  have s0:=h1 0 _ rfl
  have s1:=h1 1 _ rfl
  have s2:=h1 2 _ rfl
  have s3:=h1 3 _ rfl
  have s4:=h1 4 _ rfl
  have s5:=h1 5 _ rfl
  simp only[Nat.add_zero] at s0
  by_cases h0:i=0
  ·have E0:=Hd (show ((i:Int)==0)=true by rw[h0];rfl)
   have F0:=Hd (show decide (i=0)=true from decide_eq_true h0)
   have hv:=Hd (show ((ok&&EV==0)&&true)=(decide (rows.length<=8)&&okN rows (i+1)) by rw[hnx,hi,<-hE9,h0];simp[Pz,hPB,Bool.and_assoc])
   clear hps hpc hPB tr hi h0 h1 hnx hEV hE9
   have k1:=b1.cell
   have f1:=b1.frozen
   go_upto_region 5 with(fail)
   clear k1 f1
   refine Ab W (Bc w.heap.size #[.slice (some ⟨b0,o0,none⟩) rows.length cap] 27<|Bc W.heap.size #[.string r0.name,r0.eps,r0.floor,r0.last,r0.scale,.slice p0 r0.pts.length c0] 35<|Bz) ?_
   clear b1
   rintro W21 hW z22 hL
   obtain⟨⟨b1,yb1,k1,f1⟩,⟨b2,yb2,k2,f2⟩,-⟩:=id hL
   clear k1 f1 k2 f2
   refine Bw 23 43 hW hL ?_
   iterate 2 refine dE (fun W' hC=>aI E0.out F0.out) ?_
   refine gE (fun W' hC=>aI E0.out F0.out) ?_
   apply Bu (p:=true) (hg:=rfl) (hd:=rfl) (hal:=rfl)
   ·intro v W' h
    simp at h
    simp
    exact h
   ·intro hp hx W' hC
    exact cP.out W' (hW.trans (hC.1.of_priv hW.size))
   ·intro hp hx a W' hC hE
    obtain⟨_,⟨-,-,k1,-⟩,⟨-,-,k2,-⟩,-⟩:=hC
    first
     |(simp[hx] at hE;simp[go_sem,Act.eval,iw,hE,k1,k2,E0.out,F0.out];try rfl)
     |(clear hE;simp[go_sem,Act.eval,iw,k1,k2,E0.out,F0.out];try rfl)
   refine gE (fun W' hC=>aI E0.out F0.out) ?_
   refine pA ?_
   refine dE (fun W' hC=>aI E0.out F0.out) ?_
   iterate 3 refine gE (fun W' hC=>aI E0.out F0.out) ?_
   iterate 11
    first
    |(
     apply Ai (c:=undef) (hg:=rfl) (hd:=rfl) (hal:=rfl)
     ·intro v W' h
      exact h
     ·intro hp hx
      cases hx)
    |(
     apply P0 (p:=true) (x:=true) (y:=false) (ho:=rfl) (hg:=rfl) (hd:=rfl)
     ·intro v W' h
      simp[Af,Det,Am] at h
      simp
      exact h
     ·intro _ hx v W' h
      simp[hx] at h
      exact h
     ·intro _ hx v W' h hy
      cases hy)
   refine pA ?_
   refine dE (fun W' hC=>aI E0.out F0.out) ?_
   clear hW hL b1 b2
   rintro W23 hW z24 hL
   simp only[ndR]
   intros
   repeat (rename Am _ _ _ _=>hgd;clear hgd)
   simp only[ndS]
   refine wpList_nil ?_
   obtain⟨⟨b1,yb1,k1,f1⟩,⟨b2,yb2,k2,f2⟩,-⟩:=hL
   go_wp2
   rw[show (i:Int)+1=((i+1:Nat):Int) by omega]
   refine⟨?_,by simp[Ag];omega⟩
   unfold ckRel
   exact⟨hW0.trans (hW.mono hz),b1,i+1,_,Ac rfl,(by first|exact hv.out|(rw[<-hv.out,Bool.and_true])),by omega⟩
  ·obtain⟨j,hj⟩:∃j,i=j+1:=⟨i-1,by omega⟩
   obtain⟨n0,tn⟩:∃x,rows[j]? =some x:=⟨rows[j]'(by omega),List.getElem?_eq_getElem (by omega)⟩
   obtain⟨b9,o9,p1,c1,e9,h2,-,-⟩:=hR.at' j _ tn
   injection e9 with e9
   injection e9 with e91 e92 _
   subst e91
   subst e92
   have E0:=Hd (show ((i:Int)==0)=false by rw[beq_eq_false_iff_ne];omega)
   have F0:=Hd (show decide (i=0)=false from decide_eq_false h0)
   have E1:=Hd (show wrap64 ((i:Int)-1)=(j:Int) by rw[Ak];omega)
   have g1:j<rows.length:=by omega
   have hv:=Hd (show ((ok&&EV==0)&&Op.bytesLess n0.name.toList r0.name.toList)=(decide (rows.length<=8)&&okN rows (i+1)) by rw[hnx,hi,<-hE9,hj];simp[Pz,hPB,tn,Bool.and_assoc])
   unfold Dw at h2
   clear hps hpc hPB tr hi h0 h1 hj tn hnx hEV hE9
   have k1:=b1.cell
   have f1:=b1.frozen
   go_upto_region 5 with(fail)
   clear k1 f1
   refine Ab W (Bc w.heap.size #[.slice (some ⟨b0,o0,none⟩) rows.length cap] 27<|Bc W.heap.size #[.string r0.name,r0.eps,r0.floor,r0.last,r0.scale,.slice p0 r0.pts.length c0] 35<|Rc (fun W'=>Ck W' b0 (o0+j*6) #[.string n0.name,n0.eps,n0.floor,n0.last,n0.scale,.slice p1 n0.pts.length c1])<|Bz) ?_ (hI:=by exact Aa) (hR:=(Bc.mk (by exact Ad)<|Bc.mk (by exact Ad)<|Rc.mk (by first|exact⟨h2⟩|(exact(Ck.mk h2).below Aa))<|trivial))
   clear b1
   rintro W21 hW z22 hL
   obtain⟨⟨b1,yb1,k1,f1⟩,⟨b2,yb2,k2,f2⟩,b3,-⟩:=id hL
   clear k1 f1 k2 f2
   refine Bw 23 43 hW hL ?_
   iterate 2 refine dE (fun W' hC=>aI E0.out (aI F0.out (aI hlt (aI (Nat.not_le.2 hlt) (aI E1.out (aI g1 (aI (Nat.not_le.2 g1) (hC.2.2.2.1.at' 0 _ rfl)))))))) ?_
   refine gE (fun W' hC=>aI E0.out (aI F0.out (aI hlt (aI (Nat.not_le.2 hlt) (aI E1.out (aI g1 (aI (Nat.not_le.2 g1) (hC.2.2.2.1.at' 0 _ rfl)))))))) ?_
   apply Bu (p:=true) (hg:=rfl) (hd:=rfl) (hal:=rfl)
   ·intro v W' h
    simp at h
    simp
    exact h
   ·intro hp hx W' hC
    exact cP.out W' (hW.trans (hC.1.of_priv hW.size))
   ·intro hp hx a W' hC hE
    obtain⟨_,⟨-,-,k1,-⟩,⟨-,-,k2,-⟩,k3,-⟩:=hC
    have t0:=k3.at' 0 _ rfl;simp only[Nat.add_zero] at t0
    first
     |(simp[hx] at hE;simp[go_sem,Act.eval,iw,hE,k1,k2,k3,E0.out,F0.out,hlt,Nat.not_le.2 hlt,E1.out,g1,Nat.not_le.2 g1,t0];try rfl)
     |(clear hE;simp[go_sem,Act.eval,iw,k1,k2,k3,E0.out,F0.out,hlt,Nat.not_le.2 hlt,E1.out,g1,Nat.not_le.2 g1,t0];try rfl)
   refine gE (fun W' hC=>aI E0.out (aI F0.out (aI hlt (aI (Nat.not_le.2 hlt) (aI E1.out (aI g1 (aI (Nat.not_le.2 g1) (hC.2.2.2.1.at' 0 _ rfl)))))))) ?_
   refine pA ?_
   refine dE (fun W' hC=>aI E0.out (aI F0.out (aI hlt (aI (Nat.not_le.2 hlt) (aI E1.out (aI g1 (aI (Nat.not_le.2 g1) (hC.2.2.2.1.at' 0 _ rfl)))))))) ?_
   iterate 3 refine gE (fun W' hC=>aI E0.out (aI F0.out (aI hlt (aI (Nat.not_le.2 hlt) (aI E1.out (aI g1 (aI (Nat.not_le.2 g1) (hC.2.2.2.1.at' 0 _ rfl)))))))) ?_
   iterate 10 refine gF (fun W' hC=>aI E0.out (aI F0.out (aI hlt (aI (Nat.not_le.2 hlt) (aI E1.out (aI g1 (aI (Nat.not_le.2 g1) (hC.2.2.2.1.at' 0 _ rfl)))))))) ?_
   refine pgO ?_
   refine pA ?_
   refine dE (fun W' hC=>aI E0.out (aI F0.out (aI hlt (aI (Nat.not_le.2 hlt) (aI E1.out (aI g1 (aI (Nat.not_le.2 g1) (hC.2.2.2.1.at' 0 _ rfl)))))))) ?_
   clear hW hL b1 b2 b3
   rintro W23 hW z24 hL
   simp only[ndR]
   intros
   repeat (rename Am _ _ _ _=>hgd;clear hgd)
   simp only[ndS]
   refine wpList_nil ?_
   obtain⟨⟨b1,yb1,k1,f1⟩,⟨b2,yb2,k2,f2⟩,b3,-⟩:=hL
   go_wp2
   rw[show (i:Int)+1=((i+1:Nat):Int) by omega]
   refine⟨?_,by simp[Ag];omega⟩
   unfold ckRel
   exact⟨hW0.trans (hW.mono hz),b1,i+1,_,Ac rfl,(by first|exact hv.out|(rw[<-hv.out,Bool.and_true])),by omega⟩
 ·obtain rfl:i=rows.length:=by omega
  have hres:=Hd (show RES=if ok=true then 0 else 380 by rw[<-hRES.out,Gi,hi,Bool.and_comm])
  clear hi hRES
  cases ok with
  |true=>
   go_wp2
   go_ret
   exact⟨by rw[hres.out];rfl,hW0⟩
  |false=>
   go_wp2
   go_ret
   exact⟨by rw[hres.out];rfl,hW0⟩
def GS (g:Bool) (Φ:Bi):Bi:=fun v w=>if g=true then Φ v w else v=undef
theorem GS.closed {L:List Nat} {Φ:Bi} (g:Bool) (h:A9 L Φ):A9 L (GS g Φ):=fun v w w' hr hs=>by
 unfold GS at*
 split at hs<;>rename_i hg
 ·rw[if_pos hg];exact h _ _ _ hr hs
 ·rw[if_neg hg];exact hs
section
variable {P:Program} {ops:Array Oper} {C:World->Prop} {X:List (Nat×Nat)} {a0:Act} {Fin:List (Option Tmp×Bi)->Prop} {i:Nat} {o:Oper} {rest:List Oper} {acc:List (Option Tmp×Bi)}
theorem nd_gs (Φ:Bi) (p x want:Bool) (k:Nat) (d:Tmp) (hcl:A9 (Bn X i) Φ) (hg:o.guard=some (k,want)) (hd:Bf ops k=some d)
  (hx:∀v w,Af a0 acc d v w->if p=true then v= .bool x else v=undef)
  (h:p=true->x=want->∀(a:Act) (w:World),C w->(∀s∈o.looksAt ops,Af a0 acc s (a.tmps.getD s undef) w)->Ml P o (Fi X i) Φ w ((execOp a.eval o).run P w))
  (hr:Ao P ops C X a0 Fin (i+1) rest ((o.dst,GS (p&&(x==want)) Φ)::acc)):Ao P ops C X a0 Fin i (o::rest) acc:=by
 refine⟨GS (p&&(x==want)) Φ,GS.closed _ hcl,fun a w hC hE=> ?_,hr⟩
 have hin:d∈o.looksAt ops:=by
  unfold Bf at hd
  simp[Oper.looksAt,hg,hd]
 have hv:=hx _ _ (hE d hin)
 cases p with
 |true=>
  have hw:=Gu (o:=o) hg hd (by simpa using hv)
  refine⟨fun e=> ?_,fun e=> ?_⟩
  ·rw[hw] at e
   have hxw:x=want:=by simpa using e
   have:=h rfl hxw a w hC hE
   have eg:GS (true&&(x==want)) Φ=Φ:=by funext v w;simp[GS,hxw]
   rw[eg]
   exact this
  ·rw[hw] at e
   simp[GS,e]
 |false=>
  have hw:=J3 (o:=o) hg hd (by simpa using hv)
  exact⟨fun e=>(by rw[hw] at e;cases e),fun _=>(by simp[GS])⟩
theorem Rt (Φ:Bi) (p x want:Bool) (k:Nat) (d:Tmp) (hcl:A9 (Bn X i) Φ) (hg:o.guard=some (k,want)) (hd:Bf ops k=some d) (hal:Au o=false)
  (hx:∀v w,Af a0 acc d v w->if p=true then v= .bool x else v=undef)
  (h:p=true->x=want->∀(a:Act) (w:World),C w->(∀s∈o.looksAt ops,Af a0 acc s (a.tmps.getD s undef) w)->∃f args,(execOp a.eval o).run P w= .ok (.enter f args) w/\Calls P f args w fun e w'=>∃u,e= .returned u/\Below w.heap.size w w'/\Φ u w')
  (hr:Ao P ops C X a0 Fin (i+1) rest ((o.dst,GS (p&&(x==want)) Φ)::acc)):Ao P ops C X a0 Fin i (o::rest) acc:=
 nd_gs Φ p x want k d hcl hg hd hx (fun e1 e2 a w hC hE=>by
  obtain⟨f,args,h1,h2⟩:=h e1 e2 a w hC hE
  rw[h1]
  exact⟨rfl,hal,h2.mono fun e w' ⟨u,he,hb,hΦ⟩=>⟨u,he,Rex.of_below hb,hΦ⟩⟩) hr
end
theorem neg_w (sa:Bool) (pa:Option Addr) (la ca m:Nat) (w:World) (ha:Av w (.slice pa la ca) m):
  Calls Tryz.prog 115 #[.agg #[.bool sa,.slice pa la ca]] w fun e w'=>∃sz,e= .returned (.agg #[.bool (!sa&&decide (0<m)),sz])/\Av w' sz m/\Below w.heap.size w w':=by
 go_enter Tryz.func115,Tryz.ntmps115
 go_upto_region 1 with(fail)
 refine Ab w (Bc w.heap.size #[.bool sa,.slice pa la ca] 115<|Bc (w.heap.size+1) #[.bool false,.slice none 0 0] 115<|Rc (fun W'=>Av W' (.slice pa la ca) m)<|Bz) ?_ (hI:=by exact Aa) (hR:=(Bc.mk (by exact Ad)<|Bc.mk (by exact Ad)<|Rc.mk (by first|exact ha.below Aa|exact b3.below hW)<|trivial))
 rintro W1 hW z2 ⟨⟨b1,yb1,k1,f1⟩,⟨b2,yb2,k2,f2⟩,b3,-⟩
 go_wp2_with fail
 refine(Dh (!sa) (.slice pa la ca) m _ b3).mono ?_
 rintro e w3 ⟨rfl,hb3⟩
 have z4:=hb3.size
 try simp at z4
 clear k1 f1 k2 f2
 refine Aj w w3 (Bc w.heap.size #[.bool sa,.slice pa la ca] 115<|Bc (w.heap.size+1) #[.bool false,.slice none 0 0] 115<|Rc (fun W'=>Av W' (.slice pa la ca) m)<|Bz) ?_ (hR:=(Bc.mk (by exact Ad)<|Bc.mk (by exact Ad)<|Rc.mk (by first|exact ha.below Aa|exact b3.below hb3)<|trivial))
 clear b1 b2 b3 hW
 rintro hW z5 ⟨⟨b1,yb1,k1,f1⟩,⟨b2,yb2,k2,f2⟩,b3,-⟩
 clear hb3
 have hq1:=Hd b3
 clear b3
 have y_1:=b1.lt
 have y_2:=b2.lt
 obtain⟨B,hB⟩:∃B,B=(!sa&&decide (0<m)):=⟨_,rfl⟩
 rw[<-hB]
 replace hB:=Hd hB
 go_wp2
 refine bodyPost_ret (v:= .agg #[.bool B,.slice pa la ca]) (by simp[results,Tryz.results115,go_sem,k1,f1,k2,f2,y_1,y_2]) rfl ⟨_,by rw[hB.out],?_,by exact Aa⟩
 have hS:=hq1.out.store b2 (.bool B) (.slice pa la ca)
 simpa using hS
theorem c_refNeg (va:Value) (x:Int) (w:World) (ha:B3 w va x):Calls Tryz.prog 115 #[va] w fun e w'=>∃v,e= .returned v/\B3 w' v (-x)/\Below w.heap.size w w':=by
 obtain⟨pa,la,ca,rfl,ha'⟩:=Bm ha
 refine(neg_w _ pa la ca _ w ha').mono ?_
 rintro e w' ⟨sz,rfl,h,hB⟩
 refine⟨_,rfl,⟨sz,?_,by rw[Int.natAbs_neg];exact h⟩,hB⟩
 congr 3
 by_cases h1:x<0
 ·rw[decide_eq_true h1,decide_eq_false (show¬(-x<0) by omega)];rfl
 ·rw[decide_eq_false h1,Bool.not_false,Bool.true_and]
  by_cases h2:x=0
  ·rw[decide_eq_false (show¬(0<x.natAbs) by omega),decide_eq_false (show¬(-x<0) by omega)]
  ·rw[decide_eq_true (show 0<x.natAbs by omega),decide_eq_true (show-x<0 by omega)]
theorem c_refSub (va vb:Value) (x y:Int) (w:World) (ha:B3 w va x) (hb:B3 w vb y) (hx:x.natAbs<2^900) (hy:y.natAbs<2^900):
  Calls Tryz.prog 67 #[va,vb] w fun e w'=>∃v,e= .returned v/\B3 w' v (x-y)/\Below w.heap.size w w':=by
 rw[Int.sub_eq_add_neg]
 obtain⟨pa,la,ca,rfl,ha'⟩:=Bm ha
 obtain⟨pb,lb,cb,rfl,hb'⟩:=Bm hb
 clear ha' hb'
 go_enter Tryz.func67,Tryz.ntmps67
 go_upto_region 1 with(fail)
 refine Ab w (Bc w.heap.size #[.bool (decide (x<0)),.slice pa la ca] 115<|Bc (w.heap.size+1) #[.bool (decide (y<0)),.slice pb lb cb] 115<|Bc (w.heap.size+2) #[.bool false,.slice none 0 0] 115<|Rc (fun W'=>B3 W' (.agg #[.bool (decide (x<0)),.slice pa la ca]) x)<|Rc (fun W'=>B3 W' (.agg #[.bool (decide (y<0)),.slice pb lb cb]) y)<|Bz) ?_ (hI:=by exact Aa) (hR:=(Bc.mk (by exact Ad)<|Bc.mk (by exact Ad)<|Bc.mk (by exact Ad)<|Rc.mk (by exact B3.below ha Aa)<|Rc.mk (by exact B3.below hb Aa)<|trivial))
 rintro W1 hW z2 hL
 obtain⟨⟨b1,yb1,k1,f1⟩,⟨b2,yb2,k2,f2⟩,⟨b3,yb3,k3,f3⟩,b4,b5,-⟩:=id hL
 clear k1 f1 k2 f2 k3 f3
 refine Bw 4 9 hW hL ?_
 iterate 2 refine dA ?_
 apply A5 (NI (-y)) (hg:=rfl) (hal:=rfl)
 ·exact NI.closed _
 ·intro a' W' hC hE
  obtain⟨_,⟨-,-,k1,-⟩,⟨-,-,k2,-⟩,⟨-,-,k3,-⟩,k4,k5,-⟩:=hC
  simp at hE
  refine⟨_,_,?_,(c_refNeg _ y W' k5).mono ?_⟩
  ·simp[go_sem,Act.eval,hE]
   try rfl
  ·rintro e w' ⟨v,rfl,hB,hR⟩
   exact⟨_,rfl,hR,hB⟩
 apply A5 (NI (x+ -y)) (hg:=rfl) (hal:=rfl)
 ·exact NI.closed _
 ·intro a' W' hC hE
  obtain⟨_,⟨-,-,k1,-⟩,⟨-,-,k2,-⟩,⟨-,-,k3,-⟩,k4,k5,-⟩:=hC
  simp at hE
  refine⟨_,_,?_,(Om _ _ x (-y) W' k4 hE.2 hx (by rw[Int.natAbs_neg];exact hy)).mono ?_⟩
  ·simp[go_sem,Act.eval,hE.1]
   try rfl
  ·rintro e w' ⟨v,rfl,hB,hR⟩
   exact⟨_,rfl,hR,hB⟩
 clear hW hL b1 b2 b3 b4 b5
 rintro W3 hW z4 hL
 simp only[ndR]
 intros
 simp only[ndS]
 obtain⟨⟨b1,yb1,k1,f1⟩,⟨b2,yb2,k2,f2⟩,⟨b3,yb3,k3,f3⟩,b4,b5,-⟩:=hL
 rename NI (x+ -y) _ _=>hq
 obtain⟨p1,l1,k1',rfl,hq1⟩:=Bm hq
 replace hq1:=Hd hq1
 clear hq
 obtain⟨B,hB⟩:∃B,B=(decide (x+ -y<0)):=⟨_,rfl⟩
 rw[<-hB]
 replace hB:=Hd hB
 go_wp2
 refine bodyPost_ret (v:= .agg #[.bool B,.slice p1 l1 k1']) (by simp[results,Tryz.results67,go_sem,k1,f1,k2,f2,k3,f3,yb1,yb2,yb3]) rfl ⟨_,rfl,⟨_,by rw[hB.out],?_⟩,by exact Aa⟩
 have hS:=hq1.out.store b3 (.bool B) (.slice p1 l1 k1')
 simpa using hS
theorem Rz (sa:Bool) (pa pb:Option Addr) (la ca lb cb:Nat) (w:World):Cb 65 #[.agg #[.bool sa,.slice pa la ca],.agg #[.bool (!sa),.slice pb lb cb]] w (.bool sa):=by
 cases sa
 ·
  go_enter Tryz.func65,Tryz.ntmps65
  go_upto_region 1 with(fail)
  refine Ab w (Bc w.heap.size #[.bool false,.slice pa la ca] 115<|Bc (w.heap.size+1) #[.bool (!false),.slice pb lb cb] 115<|Bz) ?_
  rintro W1 hW z2 ⟨⟨b1,yb1,k1,f1⟩,⟨b2,yb2,k2,f2⟩,-⟩
  go_wp2
  refine bodyPost_ret (by simp[results,Tryz.results65,go_sem,k1,f1,k2,f2,yb1,yb2]) rfl ⟨rfl,by exact Aa⟩
 ·
  go_enter Tryz.func65,Tryz.ntmps65
  go_upto_region 1 with(fail)
  refine Ab w (Bc w.heap.size #[.bool true,.slice pa la ca] 115<|Bc (w.heap.size+1) #[.bool (!true),.slice pb lb cb] 115<|Bz) ?_
  rintro W1 hW z2 ⟨⟨b1,yb1,k1,f1⟩,⟨b2,yb2,k2,f2⟩,-⟩
  go_wp2
  refine bodyPost_ret (by simp[results,Tryz.results65,go_sem,k1,f1,k2,f2,yb1,yb2]) rfl ⟨rfl,by exact Aa⟩
theorem less_neg (pa pb:Option Addr) (la ca lb cb m n:Nat) (w:World) (ha:Av w (.slice pa la ca) m) (hb:Av w (.slice pb lb cb) n) (hm:m<2^900) (hn:n<2^900):Cb 65 #[.agg #[.bool true,.slice pa la ca],.agg #[.bool true,.slice pb lb cb]] w (.bool (decide (n<m))):=by
 go_enter Tryz.func65,Tryz.ntmps65
 go_upto_region 1 with(fail)
 refine Ab w (Bc w.heap.size #[.bool true,.slice pa la ca] 115<|Bc (w.heap.size+1) #[.bool true,.slice pb lb cb] 115<|Bz) ?_
 rintro W1 hW z2 ⟨⟨b1,yb1,k1,f1⟩,⟨b2,yb2,k2,f2⟩,-⟩
 go_wp2_with fail
 refine(Ls (.slice pb lb cb) (.slice pa la ca) n m _ (hb.below (by exact Aa)) (ha.below (by exact Aa)) hn hm).mono ?_
 rintro e w3 ⟨rfl,hb3⟩
 have z4:=hb3.size
 try simp at z4
 clear k1 f1 k2 f2
 refine Aj w w3 (Bc w.heap.size #[.bool true,.slice pa la ca] 115<|Bc (w.heap.size+1) #[.bool true,.slice pb lb cb] 115<|Bz) ?_
 clear b1 b2 hW
 rintro hW z5 ⟨⟨b1,yb1,k1,f1⟩,⟨b2,yb2,k2,f2⟩,-⟩
 clear hb3
 go_wp2
 refine bodyPost_ret (by simp[results,Tryz.results65,go_sem,k1,f1,k2,f2,yb1,yb2]) rfl ⟨rfl,by exact Aa⟩
theorem less_pos (pa pb:Option Addr) (la ca lb cb m n:Nat) (w:World) (ha:Av w (.slice pa la ca) m) (hb:Av w (.slice pb lb cb) n) (hm:m<2^900) (hn:n<2^900):Cb 65 #[.agg #[.bool false,.slice pa la ca],.agg #[.bool false,.slice pb lb cb]] w (.bool (decide (m<n))):=by
 go_enter Tryz.func65,Tryz.ntmps65
 go_upto_region 1 with(fail)
 refine Ab w (Bc w.heap.size #[.bool false,.slice pa la ca] 115<|Bc (w.heap.size+1) #[.bool false,.slice pb lb cb] 115<|Bz) ?_
 rintro W1 hW z2 ⟨⟨b1,yb1,k1,f1⟩,⟨b2,yb2,k2,f2⟩,-⟩
 go_wp2_with fail
 refine(Ls (.slice pa la ca) (.slice pb lb cb) m n _ (ha.below (by exact Aa)) (hb.below (by exact Aa)) hm hn).mono ?_
 rintro e w3 ⟨rfl,hb3⟩
 have z4:=hb3.size
 try simp at z4
 clear k1 f1 k2 f2
 refine Aj w w3 (Bc w.heap.size #[.bool false,.slice pa la ca] 115<|Bc (w.heap.size+1) #[.bool false,.slice pb lb cb] 115<|Bz) ?_
 clear b1 b2 hW
 rintro hW z5 ⟨⟨b1,yb1,k1,f1⟩,⟨b2,yb2,k2,f2⟩,-⟩
 clear hb3
 go_wp2
 refine bodyPost_ret (by simp[results,Tryz.results65,go_sem,k1,f1,k2,f2,yb1,yb2]) rfl ⟨rfl,by exact Aa⟩
theorem Vc (va vb:Value) (x y:Int) (w:World) (ha:B3 w va x) (hb:B3 w vb y) (hx:x.natAbs<2^900) (hy:y.natAbs<2^900):
  Cb 65 #[va,vb] w (.bool (decide (x<y))):=by
 obtain⟨pa,la,ca,rfl,ha'⟩:=Bm ha
 obtain⟨pb,lb,cb,rfl,hb'⟩:=Bm hb
 by_cases h1:x<0<;>by_cases h2:y<0
 ·rw[decide_eq_true h1,decide_eq_true h2,show decide (x<y)=decide (y.natAbs<x.natAbs) from decide_eq_decide.2 (by omega)]
  exact less_neg pa pb la ca lb cb _ _ w ha' hb' hx hy
 ·rw[decide_eq_true h1,decide_eq_false h2,decide_eq_true (show x<y by omega)]
  exact Rz true pa pb la ca lb cb w
 ·rw[decide_eq_false h1,decide_eq_true h2,decide_eq_false (show¬x<y by omega)]
  exact Rz false pa pb la ca lb cb w
 ·rw[decide_eq_false h1,decide_eq_false h2,show decide (x<y)=decide (x.natAbs<y.natAbs) from decide_eq_decide.2 (by omega)]
  exact less_pos pa pb la ca lb cb _ _ w ha' hb' hx hy
end Go.Proofs.YtdeghcgakkhbmaaGreat
namespace Go.Proofs.YtdeghcgakkhbmaaGreat
open Go.RowKit
def X6 (w1:World) (r:At) (p:Option Addr) (cap:Nat) (a b:Int) (a':Act) (W:World):Prop:=
 Below w1.heap.size w1 W/\∃(i:Nat) (v:Value) (L:List (Int×Int)),(∃u:Nat->Value,a'= {tmps:= #[u 0,a,b,u 3,u 4,u 5,.slice none 0 0,v,u 8,u 9,u 10,.slice p r.pts.length cap,.int .i64 (r.pts.length:Int),.int .i64 (i:Int),u 14,u 15,u 16,u 17,u 18,u 19,u 20,u 21,u 22,u 23,u 24,u 25,u 26,u 27,u 28,u 29,u 30,u 31,u 32],defers:= []})/\
  Bj W w1.heap.size 58 2 v L.length (Ax L)/\L=((r.pts.take i).filter fun p=>decide (a<=p.1)&&decide (p.1<=b))/\i<=r.pts.length
theorem Zg {r:At} {a b:Int} {i:Nat} {x:Int×Int} (hx:r.pts[i]? =some x):((r.pts.take (i+1)).filter fun p=>decide (a<=p.1)&&decide (p.1<=b))=((r.pts.take i).filter fun p=>decide (a<=p.1)&&decide (p.1<=b))++if (decide (a<=x.1)&&decide (x.1<=b))=true then [x] else []:=by
 rw[List.take_add_one,hx,List.filter_append]
 congr 1
 simp only[Option.toList_some,List.filter_cons,List.filter_nil]
theorem own_ptsQ {W:World} {B n:Nat} {e:TypeId} {p:Option Addr} {cap:Nat} {l:List (Int×Int)} (h:Bj W B e 2 (.slice p n cap) n (Ax l)):Ar W p l:=by
 rcases h.own.2 with⟨h1,h0⟩|⟨g,cap',cur,h1,hg,hb,hn,hmx,_,ht⟩
 ·have:=h.own.1
  rw[Hg,h0] at this
  have:l= []:=List.length_eq_zero_iff.1 (by omega)
  subst this
  exact⟨fun i r hr=>by simp at hr⟩
 ·injection h1 with h1 _ _
  subst h1
  exact Pd hb ht
theorem c_refSome (r:At) (p:Option Addr) (cap:Nat) (a b:Int) (w:World) (hp:Ar w p r.pts) (hl:r.pts.length<=2000):
  Calls Tryz.prog 60 #[.agg (Dw r p cap),a,b] w fun e w'=>∃q c,e= .returned (.slice q (X4 r a b).length c)/\Ar w' q (X4 r a b)/\Below w.heap.size w w':=by
 unfold Dw
 obtain⟨i0,hi,hz0,hz1,hz2⟩:=info_parts Tryz.infoPoint
 go_enter Tryz.func60,Tryz.ntmps60
 go_upto_region 1 with(fail)
 refine Ab w (Bc w.heap.size #[.string r.name,r.eps,r.floor,r.last,r.scale,.slice p r.pts.length cap] 35<|Bz) ?_
 rintro W1 hW z2 ⟨⟨b1,yb1,k1,f1⟩,-⟩
 go_wp2
 clear b1 k1 f1
 have hp1:=hp.below hW
 refine wp_loop (X6 W1 r p cap a b) (fun a' _=>r.pts.length-(Ag (a'.tmps.getD 13 undef)).toNat) ?_ ?_
 ·unfold X6
  exact⟨Below.refl _ _,0,_,[],Ac rfl,Bj.nil _ _ _ _,by simp,Nat.zero_le _⟩
 rintro a' W ⟨hW0,i,v,L,⟨u,rfl⟩,hown,hL,hi'⟩
 have hz:=hW0.size
 have hlL:L.length<=2000:=by
  have h1:=List.length_filter_le (fun p=>decide (a<=p.1)&&decide (p.1<=b)) (r.pts.take i)
  rw[<-hL,List.length_take] at h1
  omega
 rcases Nat.lt_or_ge i r.pts.length with hlt|hge
 ·obtain⟨⟨t,y⟩,tr⟩:∃x,r.pts[i]? =some x:=⟨r.pts[i]'(by omega),List.getElem?_eq_getElem (by omega)⟩
  obtain⟨b0,o0,rfl,q0,q1⟩:=(hp1.below hW0).at' i _ tr
  simp only at q0 q1
  have hs:=Zg (a:=a) (b:=b) tr
  rw[<-hL] at hs
  have zv:=Ap q0
  try simp only at zv
  by_cases h1:a<=t
  ·by_cases h2:t<=b
   ·have hL2:=Hd (show L++ [(t,y)]=((r.pts.take (i+1)).filter fun p=>decide (a<=p.1)&&decide (p.1<=b)) by rw[hs,if_pos (by simp[h1,h2])])
    clear hs hL tr hp hp1
    go_upto_region 6 with(fail)
    refine Ab W (Bc W.heap.size #[t,y] 58<|Rc (fun W'=>Bj W' W1.heap.size 58 2 v L.length (Ax L))<|Bz) ?_ (hI:=by exact Aa) (hR:=(Bc.mk (by exact Ad)<|Rc.mk (by exact hown.below Aa)<|trivial))
    rintro W21 hW z22 ⟨⟨b1,yb1,k1,f1⟩,b2,-⟩
    have hown9:=b2.own
    have hW9:=hW0.trans (hW.mono hz)
    have ya9:=hW9.size
    clear hW b2 hown q0 q1 h1 h2
    go_wp2_with (at_builtin;refine wpList_append_own _ rfl (.tmp 27) (.tmp 29) 33 rfl W1.heap.size 58 i0 (.agg #[.int .i64 0,.int .i64 0]) 2 16 (by kernel_rfl) hi hz0 hz1 hz2 rfl (by decide) _ _ _ rfl (hown9.alloc _) ⟨W21.heap.size,0,none⟩ 1 1 [t,y] rfl rfl (Hh _ _ _ _) (by simp[Value.oneCell']) (by simp[maxLen];omega) (by omega) (by simp;omega) ?_)
    intro v' w9 hown2 hgr _
    have hB:=Hd (A7 hW9 ya9 hown9 hgr)
    replace hown2:=Hd hown2
    clear hgr hown9
    go_wp2
    rw[show (i:Int)+1=((i+1:Nat):Int) by omega]
    refine⟨?_,by simp[Ag];omega⟩
    unfold X6
    exact⟨hB.out,i+1,v',L++ [(t,y)],Ac rfl,⟨by rw[Hf,List.length_append,List.length_singleton];simpa using hown2.out⟩,hL2.out,by omega⟩
   ·have hL2:=Hd (show L=((r.pts.take (i+1)).filter fun p=>decide (a<=p.1)&&decide (p.1<=b)) by rw[hs,if_neg (by simp[h1,h2]),List.append_nil])
    clear hs hL tr hp hp1
    have hB1:Below W.heap.size W (W.alloc (.cells #[t,y] 58)):=Aa
    have e1:=Hd (hW0.trans (hB1.mono hz))
    have e2:=Hd (hown.below hB1)
    clear hown hB1
    go_wp2
    rw[show (i:Int)+1=((i+1:Nat):Int) by omega]
    refine⟨?_,by simp[Ag];omega⟩
    unfold X6
    exact⟨e1.out,i+1,v,L,Ac rfl,e2.out,hL2.out,by omega⟩
  ·have hL2:=Hd (show L=((r.pts.take (i+1)).filter fun p=>decide (a<=p.1)&&decide (p.1<=b)) by rw[hs,if_neg (by simp[h1]),List.append_nil])
   clear hs hL tr hp hp1
   have hB1:Below W.heap.size W (W.alloc (.cells #[t,y] 58)):=Aa
   have e1:=Hd (hW0.trans (hB1.mono hz))
   have e2:=Hd (hown.below hB1)
   clear hown hB1
   go_wp2
   rw[show (i:Int)+1=((i+1:Nat):Int) by omega]
   refine⟨?_,by simp[Ag];omega⟩
   unfold X6
   exact⟨e1.out,i+1,v,L,Ac rfl,e2.out,hL2.out,by omega⟩
 ·obtain rfl:i=r.pts.length:=by omega
  rw[List.take_of_length_le (Nat.le_refl _)] at hL
  replace hL:=Hd hL
  go_wp2
  go_ret
  obtain⟨q,c,rfl,-,-,-,-⟩:=hown.form
  rw[show X4 r a b=L from hL.out.symm]
  exact⟨q,c,rfl,own_ptsQ hown,hW.trans (hW0.mono hW.size)⟩
def ttRel (w:World) (p:Option Addr) (cap:Nat) (l:List (Int×Int)) (a':Act) (W:World):Prop:=
 Below w.heap.size w W/\Blk W w.heap.size #[.bool false,.slice none 0 0] 115/\∃(i:Nat) (s:Int) (pz:Option Addr) (lz cz:Nat),(∃u:Nat->Value,a'= {tmps:= #[u 0,u 1,.pointer (some ⟨w.heap.size,0,none⟩),.pointer (some ⟨w.heap.size+1,0,none⟩),u 4,u 5,.slice p l.length cap,.int .i64 (l.length:Int),.int .i64 (i:Int),u 9,u 10,u 11,u 12,u 13,u 14,u 15,u 16,u 17,u 18],defers:= []})/\
  Blk W (w.heap.size+1) #[.bool (decide (s<0)),.slice pz lz cz] 115/\B3 W (.agg #[.bool (decide (s<0)),.slice pz lz cz]) s/\s=He ((l.take i).map (·.2))/\i<=l.length
def gS (x:Int×(Int×Int)×Int) (v:Int):Int×(Int×Int)×Int:=(x.1+1,if x.1=0 then (mn v v,mx v v) else (mn x.2.1.1 v,mx x.2.1.2 v),x.2.2+v)
def exA (x:Int×(Int×Int)×Int):Array Value:= #[x.1,x.2.1.1,x.2.1.2,.int .i64 (hiW x.2.2),.int .u64 (loW x.2.2)]
end Go.Proofs.YtdeghcgakkhbmaaGreat
namespace Go.Proofs.YtdeghcgakkhbmaaGreat
open Go.RowKit Go.Shelf
attribute [local go_sem] Oper.semAt_some
def Od (a b:Int) (p:Int×Int):Bool:=decide (p.1<a)||decide (p.1<=b)
def B4 (a b:Int) (l:List (Int×Int)):List (Int×Int):=(l.takeWhile (Od a b)).filter (fun p=>decide (a<=p.1))
def soG (a b:Int) (l:List (Int×Int)) (k:Nat) (pre:List (Int×Int)):Prop:=pre=(l.take k).filter (fun p=>decide (a<=p.1))/\∀p,p∈l.take k->Od a b p=true
theorem Lw {l:List (Int×Int)} {k:Nat} {x:Int×Int} (h:l[k]? =some x):l.take (k+1)=l.take k++ [x]:=by rw[List.take_add_one,h];rfl
theorem U8 {l:List (Int×Int)} {k:Nat} {x:Int×Int} (h:l[k]? =some x):l.drop k=x::l.drop (k+1):=by
 have hlt:=(List.getElem?_eq_some_iff.1 h).1
 rw[List.drop_eq_getElem_cons hlt]
 congr 1
 exact(List.getElem?_eq_some_iff.1 h).2
theorem Tx {g:Int×Int->Bool}:∀ {l m:List (Int×Int)},(∀p,p∈l->g p=true)->(l++m).takeWhile g=l++m.takeWhile g
 | [],_,_=>rfl
 |a::l,m,h=>by
  rw[List.cons_append,List.takeWhile_cons,if_pos (h a (List.mem_cons_self ..)),Tx (fun p hp=>h p (List.mem_cons_of_mem _ hp))]
  rfl
theorem O6 {a b:Int} {l:List (Int×Int)} {k:Nat} {pre:List (Int×Int)} (h:soG a b l k pre):B4 a b l=pre++B4 a b (l.drop k):=by
 unfold B4
 conv=>lhs;rw[<-List.take_append_drop k l]
 rw[Tx h.2,List.filter_append,h.1]
theorem soG_skip {a b:Int} {l:List (Int×Int)} {k:Nat} {pre:List (Int×Int)} {x:Int×Int} (h:soG a b l k pre) (hx:l[k]? =some x) (hlt:x.1<a):soG a b l (k+1) pre:=by
 refine⟨?_,fun p hp=> ?_⟩
 ·rw[Lw hx,List.filter_append,<-h.1,List.filter_cons,if_neg (by simp;omega)]
  simp
 ·rw[Lw hx] at hp
  rcases List.mem_append.1 hp with hp|hp
  ·exact h.2 p hp
  ·obtain rfl:=List.mem_singleton.1 hp
   simp[Od,hlt]
theorem soG_tell {a b:Int} {l:List (Int×Int)} {k:Nat} {pre:List (Int×Int)} {x:Int×Int} (h:soG a b l k pre) (hx:l[k]? =some x) (h1:¬x.1<a) (h2:¬b<x.1):soG a b l (k+1) (pre++ [x])/\x∈B4 a b l/\pre.length<(B4 a b l).length/\pre++ [x]<+:B4 a b l:=by
 have hg:Od a b x=true:=by simp[Od];omega
 have e:B4 a b l=pre++ [x]++B4 a b (l.drop (k+1)):=by
  rw[O6 h,U8 hx]
  conv=>lhs;unfold B4;rw[List.takeWhile_cons,if_pos hg,List.filter_cons,if_pos (by simp;omega)]
  unfold B4
  simp
 refine⟨⟨?_,fun p hp=> ?_⟩,by rw[e];simp,by rw[e];simp,⟨_,e.symm⟩⟩
 ·rw[Lw hx,List.filter_append,<-h.1,List.filter_cons,if_pos (by simp;omega)]
  rfl
 ·rw[Lw hx] at hp
  rcases List.mem_append.1 hp with hp|hp
  ·exact h.2 p hp
  ·obtain rfl:=List.mem_singleton.1 hp
   exact hg
theorem soG_stop {a b:Int} {l:List (Int×Int)} {k:Nat} {pre:List (Int×Int)} {x:Int×Int} (h:soG a b l k pre) (hx:l[k]? =some x) (h1:¬x.1<a) (h2:b<x.1):pre=B4 a b l:=by
 rw[O6 h,U8 hx]
 unfold B4
 rw[List.takeWhile_cons,if_neg (by simp[Od];omega)]
 simp
theorem soG_end {a b:Int} {l:List (Int×Int)} {pre:List (Int×Int)} (h:soG a b l l.length pre):pre=B4 a b l:=by
 rw[O6 h]
 simp[B4]
structure KeepsR (r:At) (p:Option Addr) (cap:Nat) (a b:Int) (Br Ba Bb:Nat) (A B:World):Prop where
 size:A.heap.size<=B.heap.size
 pts:Ar A p r.pts->Ar B p r.pts
 raw:Blk A Br (Dw r p cap) 35->Blk B Br (Dw r p cap) 35
 lo:Blk A Ba #[a] 2->Blk B Ba #[a] 2
 hi:Blk A Bb #[b] 2->Blk B Bb #[b] 2
theorem X5 (n:Nat) (hn:1<=n) (lr Br Ba Bb:Nat) (r:At) (p:Option Addr) (cap:Nat) (a b:Int) (Q:Int×Int->Prop) (hQ:∀x,x∈B4 a b r.pts->Q x) (hlen:r.pts.length<=2000) (Kp:World->World->Prop) (hK:∀ {A B},Kp A B->KeepsR r p cap a b Br Ba Bb A B)
  (J Jx:List {x:Int×Int//Q x}->World->Prop) (B0:Nat) (hJ:AbidesFrom B0 J)
  (hY:∀pre x W,J pre W->pre.length<(B4 a b r.pts).length->YieldAt Fence.wide (n-1) Tryz.prog lr #[.agg #[x.1.1,x.1.2]] W fun e W'=>(e= .returned (.bool true)/\J (pre++ [x]) W'/\Kp W W')∨(e= .returned (.bool false)/\Jx (pre++ [x]) W'))
  (W:World) (hr:Blk W Br (Dw r p cap) 35) (ha:Blk W Ba #[a] 2) (hb:Blk W Bb #[b] 2) (hp:Ar W p r.pts) (h0:J [] W):
  CallsIn Fence.wide n Tryz.prog 116 #[.func (.yield lr) #[] #[],.pointer (some ⟨Br,0,none⟩),.pointer (some ⟨Ba,0,none⟩),.pointer (some ⟨Bb,0,none⟩)] W fun e W'=>(∃v,e= .returned v)/\((∃ys,ys.map (·.1)=B4 a b r.pts/\J ys W')∨(∃pre,pre.map (·.1)<+:B4 a b r.pts/\Jx pre W')):=by
 have hr':=hr
 unfold Dw at hr'
 have k1:=hr'.cell
 refine callsIn_of_wp Tryz.func116 rfl trivial ?_ rfl
 simp only[Tryz.ntmps116,List.size_toArray,List.length_cons,List.length_nil,Nat.reduceAdd,Nat.reduceSub,Array.replicate_succ,Array.replicate_zero,List.push_toArray,List.append_toArray,List.nil_append,List.cons_append]
 refine Mt (Xq ?_)
 gi_wp2
 clear k1 hr'
 gi_loopw [10] (fun i wr=>∃(k:Nat) (pre:List {x:Int×Int//Q x}),k<=r.pts.length/\i= .int .i64 k/\J pre wr/\soG a b r.pts k (pre.map (·.1))/\(Ar wr p r.pts/\Blk wr Br (Dw r p cap) 35/\Blk wr Ba #[a] 2/\Blk wr Bb #[b] 2)) (fun i _=>r.pts.length-(intOf i).toNat)
 case atStart=>exact⟨0,[],Nat.zero_le _,rfl,h0,⟨by simp,by simp⟩,hp,hr,ha,hb⟩
 case round=>
  obtain⟨k,pre,hk,rfl,hJs,hso,hpk,hrk,hak,hbk⟩:=hrel
  obtain⟨wo,rfl⟩:∃wo:World,wo=wr:=⟨_,rfl⟩
  rcases Nat.lt_or_ge k r.pts.length with hlt|hge
  ·obtain⟨⟨t,v⟩,tr⟩:∃x,r.pts[k]? =some x:=⟨r.pts[k]'(by omega),List.getElem?_eq_getElem (by omega)⟩
   obtain⟨bq,o,rfl,q0,q1⟩:=hpk.at' k _ tr
   simp only at q0 q1
   have ka:=hak.cell
   have kb:=hbk.cell
   have ya:=hak.lt
   have yb:=hbk.lt
   have hJ1:J pre (wo.alloc (.cells #[t,v] 58)):=hJ _ _ _ none hJs (World.grownBy_alloc wo _ none) (fun r e=>by cases e)
   have hB1:Below wo.heap.size wo (wo.alloc (.cells #[t,v] 58)):=Aa
   have e1:=hpk.below hB1
   have e2:=hrk.below hB1
   have e3:=hak.below hB1
   have e4:=hbk.below hB1
   clear hB1
   by_cases h1:t<a
   ·have hso':=Hd (soG_skip hso tr h1)
    clear hso tr hp hr ha hb h0 hJs
    gi_wp2
    go_roundw
    case rel=>exact⟨k+1,pre,by omega,by simp,hJ1,hso'.out,e1,e2,e3,e4⟩
    case measure=>simp[intOf];omega
   ·by_cases h2:b<t
    ·have hst:=Hd (soG_stop hso tr h1 h2)
     clear hso tr hp hr ha hb h0 hJs
     gi_wp2
     refine⟨fun f hf=>(by cases hf),?_⟩
     gi_wp2
     simp only[Exit.noGoto]
     refine bodyPost_end (results_none rfl _ _ _) rfl ?_
     exact⟨⟨_,rfl⟩,.inl ⟨_,hst.out,hJ1⟩⟩
    ·obtain⟨s1,s2,s3,s4⟩:=soG_tell hso tr h1 h2
     obtain⟨fn,tmps,assign,body,hy,hR⟩:=hY pre ⟨(t,v),hQ _ s2⟩ _ hJ1 (by simpa using s3)
     dsimp only at hy
     replace s1:=Hd s1
     replace s4:=Hd s4
     clear hso tr hp hr ha hb h0 hJs s3
     gi_wp2
     refine hR.mono ?_
     rintro e W3 (⟨rfl,hJ3,hk3⟩|⟨rfl,hJx3⟩)
     ·have hkp:=hK hk3
      gi_wp2
      go_roundw
      case rel=>exact⟨k+1,_,by omega,by simp,hJ3,by rw[List.map_append];exact s1.out,hkp.pts e1,hkp.raw e2,hkp.lo e3,hkp.hi e4⟩
      case measure=>simp[intOf];omega
     ·gi_wp2
      try simp only[Exit.noGoto]
      refine bodyPost_end (results_none rfl _ _ _) rfl ?_
      exact⟨⟨_,rfl⟩,.inr ⟨_,by rw[List.map_append];exact s4.out,hJx3⟩⟩
  ·obtain rfl:k=r.pts.length:=by omega
   have hend:=Hd (soG_end hso)
   clear hso
   gi_wp2
   try simp only[Exit.noGoto]
   refine bodyPost_end (results_none rfl _ _ _) rfl ?_
   exact⟨⟨_,rfl⟩,.inl ⟨_,hend.out,hJs⟩⟩
theorem some_w (r:At) (p:Option Addr) (cap:Nat) (a b:Int) (w:World):Calls Tryz.prog 68 #[.agg #[.string r.name,r.eps,r.floor,r.last,r.scale,.slice p r.pts.length cap],a,b] w fun e w'=>e= .returned (.func (.func 116) #[] #[.pointer (some ⟨w.heap.size,0,none⟩),.pointer (some ⟨w.heap.size+1,0,none⟩),.pointer (some ⟨w.heap.size+1+1,0,none⟩)])/\w'=((w.alloc (.cells #[.string r.name,r.eps,r.floor,r.last,r.scale,.slice p r.pts.length cap] 35)).alloc (.cells #[a] 2)).alloc (.cells #[b] 2):=by
 have hmf:∀(fn:Fn) (first cap:Array Value) (w:World),(Instr.makeFunc fn first cap).run Tryz.prog w= .ok (.func fn first cap) w:=fun _ _ _ _=>rfl
 go_enter Tryz.func68,Tryz.ntmps68
 go_wp2
 go_ret
 exact⟨rfl,rfl⟩
theorem Ar.keep {w A B:World} {p:Option Addr} {l:List (Int×Int)} (h:Ar w p l) (hb:Below w.heap.size A B) (ha:Ar A p l):Ar B p l:=⟨fun i r hr=>by
 obtain⟨b,o,e,k0,k1⟩:=ha.at' i r hr
 obtain⟨b',o',e',q0,_⟩:=h.at' i r hr
 rw[e] at e'
 injection e' with e'
 injection e' with e1 e2
 subst e1
 have hlt:=Ap q0
 exact⟨b,o,e,(hb.cell (p:=⟨b,_,none⟩) hlt).trans k0,(hb.cell (p:=⟨b,_,none⟩) hlt).trans k1⟩⟩
theorem O5 {a b:Int} {l:List (Int×Int)} {x:Int×Int} (h:x∈B4 a b l):x∈l:=(List.takeWhile_prefix _).sublist.subset ((List.mem_filter.1 h).1)
theorem Nq (a b:Int) (l:List (Int×Int)):(B4 a b l).length<=l.length:=Nat.le_trans (List.length_filter_le _ _) (List.takeWhile_prefix _).length_le
def toldsL (l:List (Int×Int)):Int×(Int×Int)×Int:=(l.map (·.2)).foldl gS (0,(0,0),0)
def ToldOut (r:At) (a b:Int) (w:World) (e:Ending) (w':World):Prop:=e= .returned (.agg (exA (toldsL (B4 a b r.pts))))/\Below w.heap.size w w'
end Go.Proofs.YtdeghcgakkhbmaaGreat
namespace Go.Proofs.YtdeghcgakkhbmaaGreat
open Go.RowKit

def spW (x y:Int):Int:=if x<=y then y-x else 0
def liesB (x y v wd:Int):Bool:=(decide (x<=v)&&decide (v<=y))&&decide (spW x y<=wd)

def meanB (n s mc lw lr hw hr eps:Int):Bool:=
 (decide (0<=lr)&&decide (lr<n))&&(decide (0<=hr)&&decide (hr<n))&&((0:Int)==0)&&(mc==n)&&decide (Oi (lw*n+lr) s<=0)&&decide (Oi s (hw*n+hr)<=0)&&decide (Oi (hw*n+hr-(lw*n+lr)) (2*eps*n)<=0)
structure An9 where
 er:Int
 cn:Int
 lo:Int
 up:Int
 mc:Int
 lw:Int
 lr:Int
 hw:Int
 hr:Int
def An9.ok (y:An9):Prop:=I64 y.er/\I64 y.cn/\I64 y.lo/\I64 y.up/\I64 y.mc/\I64 y.lw/\I64 y.lr/\I64 y.hw/\I64 y.hr
def anA (y:An9):Array Value:= #[y.er,y.cn,y.lo,y.up,y.mc,y.lw,y.lr,y.hw,y.hr]
def eq9 (y:An9) (er cn:Int):Bool:=(y.er==er)&&((y.cn==cn)&&((y.lo==0)&&((y.up==0)&&((y.mc==0)&&((y.lw==0)&&((y.lr==0)&&((y.hw==0)&&(y.hr==0))))))))
def bareSpan (y:An9):Bool:=(y.cn==0)&&((y.mc==0)&&((y.lw==0)&&((y.lr==0)&&((y.hw==0)&&(y.hr==0)))))
def bareMean (y:An9):Bool:=(y.cn==0)&&((y.lo==0)&&(y.up==0))
def totalB (n s:Int) (y:An9) (eps:Int):Bool:=
 if y.er=5 then (y.lo==0)&&(y.up==0)&&((we (inI (s-2*eps*n)) !=0)||(we (inI (s+2*eps*n)) !=0))
 else (y.er==0)&&(we (inI s)==0)&&liesB y.lo y.up (wv (inI s) s) (loW (2*eps*n))
def holdsX (X:Int×(Int×Int)×Int) (eps what:Int) (y:An9):Bool:=
 if what=1 then eq9 y 0 X.1
 else if X.1=0 then eq9 y 9 0
 else if what=5 then bareMean y&&((y.er==0)&&meanB X.1 X.2.2 y.mc y.lw y.lr y.hw y.hr eps)
 else bareSpan y&&(if what=4 then totalB X.1 X.2.2 y eps else (y.er==0)&&liesB y.lo y.up (if what=2 then X.2.1.1 else X.2.1.2) (2*eps))
def holdsB (r:At) (what a b:Int) (y:An9):Bool:=G5 r&&(decide (1<=what)&&decide (what<=5))&&holdsX (toldsL (B4 a b r.pts)) r.eps what y
theorem Hq {r:At} (h:G5 r=true):(0<=r.eps/\r.eps<=1099511627776)/\r.pts.length<=1024/\∀x,x∈r.pts->ptB x=true:=by
 unfold G5 Fy at h
 simp only[Bool.and_eq_true,btw,decide_eq_true_eq] at h
 obtain⟨⟨_,h2,_,_,_,h6⟩,h7,_⟩:=h
 exact⟨h2,h6,fun x hx=>(Lb _ _ _ h7 x hx).1⟩
end Go.Proofs.YtdeghcgakkhbmaaGreat
