/- Parts of the proof that follows. No condition. -/
import Derived.Laws.Cover1
import Derived.Test.YtdeghcgakkhbmaaGreatSd17
set_option maxRecDepth 100000
set_option maxHeartbeats 8000000
set_option linter.unusedSimpArgs false
set_option linter.unusedVariables false
namespace Go.Proofs.YtdeghcgakkhbmaaGreat
open Go.RowKit
theorem Uh {w:World} {p:Option Addr} {l:List (Int×Int×Int)} (h:Al w p (l.map bkT)):Gd w p l:=⟨fun i x hx=>h.at' i (bkT x) (by rw[List.getElem?_map,hx];rfl)⟩
theorem okN_at {rows:List At} (h:okN rows rows.length=true) {i:Nat} {s:At} (hs:rows[i]? =some s):G5 s=true:=by
 have hi:=(List.getElem?_eq_some_iff.1 hs).1
 cases h1:okN rows (i+1) with
 |false=>rw[okN_no h1 (by omega)] at h;cases h
 |true=>
  rw[Rq hs,Bool.and_eq_true] at h1
  unfold Pz at h1
  exact(Bool.and_eq_true _ _▸h1.2).1
def Vr (s:A8) (r:At):Bool:=(s.name.toList==r.name.toList)&&((s.eps==r.eps)&&((s.scale==r.scale)&&((s.floor==r.floor)&&(s.last==r.last))))
def stErr (L:List (Int×Int×Int)):Int:=if L= [] then 9 else 0
def stAt (s:A8) (r:At):Bool:=Vr s r&&Jb r.eps (stErr (Ef s 0 281474976710656)) (B4 0 281474976710656 r.pts) (Ef s 0 281474976710656)
def stN (SL:List A8) (ML:List At):Nat->Bool
 |0=>true
 |i+1=>stN SL ML i&&match SL[i]?,ML[i]? with
  |some s,some r=>stAt s r
  |_,_=>true
theorem X2 {SL:List A8} {ML:List At} {i:Nat} {s:A8} {r:At} (hs:SL[i]? =some s) (hr:ML[i]? =some r):stN SL ML (i+1)=(stN SL ML i&&stAt s r):=by
 simp only[stN,hs,hr]
theorem X3 {SL:List A8} {ML:List At} {i:Nat} (h:stN SL ML i=false):∀k,stN SL ML (i+k)=false
 |0=>h
 |k+1=>by
  rw[<-Nat.add_assoc]
  simp only[stN,X3 h k,Bool.false_and]
theorem stN_no {SL:List A8} {ML:List At} {i n:Nat} (h:stN SL ML i=false) (hi:i<=n):stN SL ML n=false:=by
 have:=X3 h (n-i)
 rwa [show i+(n-i)=n by omega] at this
def Ns (SL:List A8) (ML:List At):Bool:=Fh SL&&(Gi ML&&(decide (SL.length=ML.length)&&stN SL ML ML.length))
theorem T2 {s:A8} (hc:B8 s=true) (h1:s.segs.length<=100) (h2:s.opn.length<=100):(Ef s 0 281474976710656).length<=2000/\∀x,x∈Ef s 0 281474976710656->I64 x.1/\I64 x.2.1/\I64 x.2.2:=by
 have ht:=told_times (Oj hc) 0 281474976710656
 refine⟨?_,fun x hx=> ?_⟩
 ·have hk:Ht s<=1024:=by
   unfold B8 at hc
   simp only[Bool.and_eq_true,decide_eq_true_eq] at hc
   exact hc.2.2.2.2.2.2.2
  have e1:=congrArg List.length ht
  rw[List.length_map] at e1
  have e2:((Cd s).filter (X9 (mx 0 s.floor) 281474976710656)).length<=Ht s:=by
   unfold Ht
   have e3:(Cd s).filter (X9 (mx 0 s.floor) 281474976710656)=((Cd s).filter fun t=>decide (s.floor<=t)).filter (X9 (mx 0 s.floor) 281474976710656):=by
    rw[List.filter_filter]
    apply List.filter_congr
    intro t _
    have hm:=Wf 0 s.floor
    unfold X9
    rw[Bool.eq_iff_iff]
    simp only[Bool.and_eq_true,decide_eq_true_eq]
    omega
   rw[e3]
   exact List.length_filter_le _ _
  omega
 ·have h3:x.1∈(Ef s 0 281474976710656).map (·.1):=List.mem_map.2 ⟨x,hx,rfl⟩
  rw[ht] at h3
  have h4:=(List.mem_filter.1 h3).2
  unfold X9 at h4
  simp only[Bool.and_eq_true,decide_eq_true_eq] at h4
  have hm:=Wf 0 s.floor
  have h5:=(tell_ok s h1 h2 0 281474976710656).1 x.2 (by
   unfold wholeV wholeL
   rw[if_pos hc]
   exact List.mem_map.2 ⟨x,hx,rfl⟩)
  unfold I64
  omega
def stRel (w:World) (ps pm:Option Addr) (cs cm:Nat) (SL:List A8) (ML:List At) (a':Act) (W:World):Prop:=
 Below w.heap.size w W/\Blk W w.heap.size #[.slice ps SL.length cs] 24/\Blk W (w.heap.size+1) #[.slice pm ML.length cm] 27/\∃i:Nat,(∃u:Nat->Value,a'= {tmps:= #[u 0,u 1,.pointer (some ⟨w.heap.size,0,none⟩),.pointer (some ⟨(w.heap.size+1),0,none⟩),.bool false,u 5,u 6,u 7,u 8,u 9,u 10,u 11,u 12,u 13,u 14,u 15,u 16,u 17,u 18,u 19,u 20,u 21,u 22,u 23,u 24,u 25,u 26,u 27,.slice pm ML.length cm,.int .i64 (ML.length:Int),.int .i64 (i:Int),u 31,u 32,u 33,u 34,u 35,u 36,u 37,u 38,u 39,u 40,u 41,u 42,u 43,u 44,u 45,u 46,u 47,u 48,u 49,u 50,u 51,u 52,u 53,u 54,u 55,u 56,u 57,u 58,u 59,u 60,u 61,u 62,u 63,u 64,u 65,u 66,u 67,u 68,u 69,u 70,u 71,u 72,u 73,u 74,u 75,u 76,u 77,u 78,u 79,u 80,u 81,u 82,u 83,u 84,u 85],defers:= []})/\stN SL ML i=true/\i<=ML.length
def Vp (w:World) (ps pm:Option Addr) (cs cm:Nat) (SL:List A8) (ML:List At) (a':Act) (W:World):Prop:=
 Below w.heap.size w W/\Blk W w.heap.size #[.slice ps SL.length cs] 24/\Blk W (w.heap.size+1) #[.slice pm ML.length cm] 27/\∃i:Nat,(∃u:Nat->Value,a'= {tmps:= #[u 0,u 1,.pointer (some ⟨w.heap.size,0,none⟩),.pointer (some ⟨(w.heap.size+1),0,none⟩),.bool false,u 5,u 6,u 7,u 8,u 9,u 10,u 11,u 12,u 13,u 14,u 15,u 16,u 17,u 18,u 19,u 20,u 21,u 22,u 23,u 24,u 25,u 26,u 27,.slice pm ML.length cm,.int .i64 (ML.length:Int),.int .i64 (i:Int),u 31,u 32,u 33,u 34,u 35,u 36,u 37,u 38,u 39,u 40,u 41,u 42,u 43,u 44,u 45,u 46,u 47,u 48,u 49,u 50,u 51,u 52,u 53,u 54,u 55,u 56,u 57,u 58,u 59,u 60,u 61,u 62,u 63,u 64,u 65,u 66,u 67,u 68,u 69,u 70,u 71,u 72,u 73,u 74,u 75,u 76,u 77,u 78,u 79,u 80,u 81,u 82,u 83],defers:= []})/\stN SL ML i=true/\i<=ML.length
theorem st_no1 (ps pm:Option Addr) (ns nm cs cm:Nat) (w:World) (c1:Hid (∀W,Below w.heap.size w W->Cb 36 #[.agg #[.slice ps ns cs]] W (.int .i64 370))):
  Cb 10 #[.agg #[.slice ps ns cs],.agg #[.slice pm nm cm]] w (.bool false):=by
 go_enter Tryz.func10,Tryz.ntmps10
 go_upto_region 1 with(fail)
 refine Ab w (Bc w.heap.size #[.slice ps ns cs] 24<|Bc (w.heap.size+1) #[.slice pm nm cm] 27<|Bz) ?_
 rintro W1 hW z2 ⟨⟨b1,yb1,k1,f1⟩,⟨b2,yb2,k2,f2⟩,-⟩
 go_wp2_with fail
 refine(c1.out _ hW).mono ?_
 rintro e w3 ⟨rfl,hb3⟩
 have z4:=hb3.size
 try simp at z4
 clear k1 f1 k2 f2
 refine Aj w w3 (Bc w.heap.size #[.slice ps ns cs] 24<|Bc (w.heap.size+1) #[.slice pm nm cm] 27<|Bz) ?_
 clear b1 b2 hW
 rintro hW z5 ⟨⟨b1,yb1,k1,f1⟩,⟨b2,yb2,k2,f2⟩,-⟩
 clear hb3
 go_wp2
 go_ret
 exact⟨rfl,by exact Aa⟩
theorem st_no2 (ps pm:Option Addr) (ns nm cs cm:Nat) (w:World) (c1:Hid (∀W,Below w.heap.size w W->Cb 36 #[.agg #[.slice ps ns cs]] W (.int .i64 0)))
  (c2:Hid (∀W,Below w.heap.size w W->Cb 30 #[.agg #[.slice pm nm cm]] W (.int .i64 380))):
  Cb 10 #[.agg #[.slice ps ns cs],.agg #[.slice pm nm cm]] w (.bool false):=by
 go_enter Tryz.func10,Tryz.ntmps10
 go_upto_region 1 with(fail)
 refine Ab w (Bc w.heap.size #[.slice ps ns cs] 24<|Bc (w.heap.size+1) #[.slice pm nm cm] 27<|Bz) ?_
 rintro W1 hW z2 ⟨⟨b1,yb1,k1,f1⟩,⟨b2,yb2,k2,f2⟩,-⟩
 go_wp2_with fail
 refine(c1.out _ hW).mono ?_
 rintro e w3 ⟨rfl,hb3⟩
 have z4:=hb3.size
 try simp at z4
 clear k1 f1 k2 f2
 refine Aj w w3 (Bc w.heap.size #[.slice ps ns cs] 24<|Bc (w.heap.size+1) #[.slice pm nm cm] 27<|Bz) ?_
 clear b1 b2 hW
 rintro hW z5 ⟨⟨b1,yb1,k1,f1⟩,⟨b2,yb2,k2,f2⟩,-⟩
 clear hb3
 go_wp2_with fail
 refine(c2.out _ hW).mono ?_
 rintro e w6 ⟨rfl,hb6⟩
 have z7:=hb6.size
 try simp at z7
 clear k1 f1 k2 f2
 refine Aj w w6 (Bc w.heap.size #[.slice ps ns cs] 24<|Bc (w.heap.size+1) #[.slice pm nm cm] 27<|Bz) ?_
 clear b1 b2 hW
 rintro hW z8 ⟨⟨b1,yb1,k1,f1⟩,⟨b2,yb2,k2,f2⟩,-⟩
 clear hb6
 go_wp2
 go_ret
 exact⟨rfl,by exact Aa⟩
theorem st_no3 (ps pm:Option Addr) (ns nm cs cm:Nat) (w:World) (hne:((ns:Int) !=(nm:Int))=true) (c1:Hid (∀W,Below w.heap.size w W->Cb 36 #[.agg #[.slice ps ns cs]] W (.int .i64 0)))
  (c2:Hid (∀W,Below w.heap.size w W->Cb 30 #[.agg #[.slice pm nm cm]] W (.int .i64 0))):
  Cb 10 #[.agg #[.slice ps ns cs],.agg #[.slice pm nm cm]] w (.bool false):=by
 go_enter Tryz.func10,Tryz.ntmps10
 go_upto_region 1 with(fail)
 refine Ab w (Bc w.heap.size #[.slice ps ns cs] 24<|Bc (w.heap.size+1) #[.slice pm nm cm] 27<|Bz) ?_
 rintro W1 hW z2 ⟨⟨b1,yb1,k1,f1⟩,⟨b2,yb2,k2,f2⟩,-⟩
 go_wp2_with fail
 refine(c1.out _ hW).mono ?_
 rintro e w3 ⟨rfl,hb3⟩
 have z4:=hb3.size
 try simp at z4
 clear k1 f1 k2 f2
 refine Aj w w3 (Bc w.heap.size #[.slice ps ns cs] 24<|Bc (w.heap.size+1) #[.slice pm nm cm] 27<|Bz) ?_
 clear b1 b2 hW
 rintro hW z5 ⟨⟨b1,yb1,k1,f1⟩,⟨b2,yb2,k2,f2⟩,-⟩
 clear hb3
 go_wp2_with fail
 refine(c2.out _ hW).mono ?_
 rintro e w6 ⟨rfl,hb6⟩
 have z7:=hb6.size
 try simp at z7
 clear k1 f1 k2 f2
 refine Aj w w6 (Bc w.heap.size #[.slice ps ns cs] 24<|Bc (w.heap.size+1) #[.slice pm nm cm] 27<|Bz) ?_
 clear b1 b2 hW
 rintro hW z8 ⟨⟨b1,yb1,k1,f1⟩,⟨b2,yb2,k2,f2⟩,-⟩
 clear hb6
 go_wp2
 go_ret
 exact⟨rfl,by exact Aa⟩
theorem st_yes (ps pm:Option Addr) (cs cm:Nat) (SL:List A8) (ML:List At) (w:World) (hS:Gr w ps SL) (hM:D3 w pm ML) (hsB:okS SL SL.length=true) (hmB:okN ML ML.length=true) (hlm:SL.length=ML.length) (hl8:ML.length<=8)
  (c1:Hid (∀W,Below w.heap.size w W->Cb 36 #[.agg #[.slice ps SL.length cs]] W (.int .i64 0)))
  (c2:Hid (∀W,Below w.heap.size w W->Cb 30 #[.agg #[.slice pm ML.length cm]] W (.int .i64 0))):
  Cb 10 #[.agg #[.slice ps SL.length cs],.agg #[.slice pm ML.length cm]] w (.bool (stN SL ML ML.length)):=by
 obtain⟨RES,hRES⟩:∃x,stN SL ML ML.length=x:=⟨_,rfl⟩
 rw[hRES]
 replace hRES:=Hd hRES
 have hne:((SL.length:Int) !=(ML.length:Int))=false:=by rw[hlm];simp
 replace hlm:=Hd hlm
 go_enter Tryz.func10,Tryz.ntmps10
 go_upto_region 1 with(fail)
 refine Ab w (Bc w.heap.size #[.slice ps SL.length cs] 24<|Bc (w.heap.size+1) #[.slice pm ML.length cm] 27<|Bz) ?_
 rintro W1 hW z2 ⟨⟨b1,yb1,k1,f1⟩,⟨b2,yb2,k2,f2⟩,-⟩
 go_wp2_with fail
 refine(c1.out _ hW).mono ?_
 rintro e w3 ⟨rfl,hb3⟩
 have z4:=hb3.size
 try simp at z4
 clear k1 f1 k2 f2
 refine Aj w w3 (Bc w.heap.size #[.slice ps SL.length cs] 24<|Bc (w.heap.size+1) #[.slice pm ML.length cm] 27<|Bz) ?_
 clear b1 b2 hW
 rintro hW z5 ⟨⟨b1,yb1,k1,f1⟩,⟨b2,yb2,k2,f2⟩,-⟩
 clear hb3
 go_wp2_with fail
 refine(c2.out _ hW).mono ?_
 rintro e w6 ⟨rfl,hb6⟩
 have z7:=hb6.size
 try simp at z7
 clear k1 f1 k2 f2
 refine Aj w w6 (Bc w.heap.size #[.slice ps SL.length cs] 24<|Bc (w.heap.size+1) #[.slice pm ML.length cm] 27<|Bz) ?_
 clear b1 b2 hW
 rintro hW z8 ⟨⟨b1,yb1,k1,f1⟩,⟨b2,yb2,k2,f2⟩,-⟩
 clear hb6
 go_wp2
 clear k1 f1 k2 f2
 refine wp_loop (stRel w ps pm cs cm SL ML) (fun a' _=>ML.length-(Ag (a'.tmps.getD 30 undef)).toNat) ?_ ?_
 ·unfold stRel
  exact⟨hW,b1,b2,0,Ac rfl,rfl,Nat.zero_le _⟩
 clear b1 b2 hW c1 c2 hne
 rintro a' W ⟨hW0,b1,b2,i,⟨u,rfl⟩,hi,hi'⟩
 have hz:=hW0.size
 have yb1:=b1.lt
 have yb2:=b2.lt
 rcases Nat.lt_or_ge i ML.length with hlt|hge
 ·obtain⟨r0,tr⟩:∃x,ML[i]? =some x:=⟨ML[i]'(by omega),List.getElem?_eq_getElem (by omega)⟩
  obtain⟨s0,ts⟩:∃x,SL[i]? =some x:=⟨SL[i]'(by have:=hlm.out;omega),List.getElem?_eq_getElem (by have:=hlm.out;omega)⟩
  obtain⟨bs,os,p0,c0,q0,d0,rfl,h1,hser⟩:=(hS.below hW0).at' i _ ts
  obtain⟨bm,om,pr,cr,rfl,h2,hpr,hpc⟩:=(hM.below hW0).at' i _ tr
  have hsc:=okS_at hsB ts
  have hrB:=okN_at hmB tr
  have hnx:=X2 ts tr
  rw[hi,Bool.true_and] at hnx
  have hlS:i<SL.length:=(List.getElem?_eq_some_iff.1 ts).1
  obtain⟨L,hL⟩:∃L,Ef s0 0 281474976710656=L:=⟨_,rfl⟩
  obtain⟨hl3,hlv⟩:=T2 hsc hser.fewS hser.fewO
  rw[hL] at hl3 hlv
  have hf1:=(Hq hrB).2.1
  have cSc:=fun W' (hW':Below W.heap.size W W')=>c_anScan s0 p0 q0 c0 d0 0 281474976710656 W' (hser.below hW')
  unfold Fc scanL wholeE Dy at cSc
  rw[hsc,if_pos rfl,hL] at cSc
  simp only[if_true] at cSc
  obtain⟨E,hE⟩:∃E,stErr L=E:=⟨_,rfl⟩
  rw[show (if L= [] then (9:Int) else 0)=E from hE] at cSc
  replace cSc:=Hd cSc
  have cH:=Hd (fun W' (hW':Below W.heap.size W W') q k (hB:Gd W' q L) (hk:L.length<=k)=>Tq r0 pr cr 0 281474976710656 E q L k W' (hpr.below hW') (by omega) hB hk hl3 hlv)
  rw[hrB,Bool.true_and] at cH
  unfold Dw at cH h2
  unfold Dy at h1
  obtain⟨F,hF⟩:∃B,stAt s0 r0=B:=⟨_,rfl⟩
  rw[hF] at hnx
  have hno:=Hd (fun(e:F=false)=>(show RES=false by rw[<-hRES.out];exact stN_no (hnx.trans e) hlt))
  have hst:=Hd (fun(e:F=true)=>(show stN SL ML (i+1)=true from hnx.trans e))
  obtain⟨SB,hSB⟩:∃B,Jb r0.eps E (B4 0 281474976710656 r0.pts) L=B:=⟨_,rfl⟩
  rw[hSB] at cH
  have hv:=Hd (show (((((!(s0.name.toList==r0.name.toList)||(s0.eps !=r0.eps))||(s0.scale !=r0.scale))||(s0.floor !=r0.floor))||(s0.last !=r0.last))|| !SB)= !F by
   rw[<-hF]
   unfold stAt Vr
   rw[hL,hE,hSB]
   simp[bne,Bool.not_and,Bool.or_assoc])
  have s0_:=h1 0 _ rfl
  have s1:=h1 1 _ rfl
  have s2:=h1 2 _ rfl
  have s3:=h1 3 _ rfl
  have s4:=h1 4 _ rfl
  have s5:=h1 5 _ rfl
  have s6:=h1 6 _ rfl
  have t0:=h2 0 _ rfl
  have t1:=h2 1 _ rfl
  have t2:=h2 2 _ rfl
  have t3:=h2 3 _ rfl
  have t4:=h2 4 _ rfl
  have t5:=h2 5 _ rfl
  simp only[Nat.add_zero] at s0_ t0
  have zs9:=Ap s0_
  have zt9:=Ap t0
  try simp only at zs9 zt9
  clear h1 h2 hL hser hpr hpc hf1 hsc hrB tr ts hi hnx hlv hl3 hE hSB hF hmB hsB hS hM
  have k1:=b1.cell
  have f1:=b1.frozen
  have k2:=b2.cell
  have f2:=b2.frozen
  go_upto_region 7 with(fail)
  clear k1 f1 k2 f2
  refine Ab W (Bc w.heap.size #[.slice (some ⟨bs,os,none⟩) SL.length cs] 24<|Bc (w.heap.size+1) #[.slice (some ⟨bm,om,none⟩) ML.length cm] 27<|Bc W.heap.size #[.string r0.name,r0.eps,r0.floor,r0.last,r0.scale,.slice pr r0.pts.length cr] 35<|Bc (W.heap.size+1) #[.string s0.name,s0.eps,s0.floor,s0.last,s0.scale,.slice p0 s0.segs.length c0,.slice q0 s0.opn.length d0] 79<|Bz) ?_
  clear b1 b2
  rintro W21 hW z22 ⟨⟨b1,yb1,k1,f1⟩,⟨b2,yb2,k2,f2⟩,⟨b3,yb3,k3,f3⟩,⟨b4,yb4,k4,f4⟩,-⟩
  clear s0_ s1 s2 s3 s4 s5 s6 t0 t1 t2 t3 t4 t5 zs9 zt9
  go_wp2_with fail
  refine(cSc.out _ hW).mono ?_
  rintro e w23 ⟨q,k,rfl,hRq,hb23,hkq⟩
  have z24:=hb23.size
  try simp at z24
  clear k1 f1 k2 f2 k3 f3 k4 f4
  refine Aj W w23 (Bc w.heap.size #[.slice (some ⟨bs,os,none⟩) SL.length cs] 24<|Bc (w.heap.size+1) #[.slice (some ⟨bm,om,none⟩) ML.length cm] 27<|Bc W.heap.size #[.string r0.name,r0.eps,r0.floor,r0.last,r0.scale,.slice pr r0.pts.length cr] 35<|Bc (W.heap.size+1) #[.string s0.name,s0.eps,s0.floor,s0.last,s0.scale,.slice p0 s0.segs.length c0,.slice q0 s0.opn.length d0] 79<|Bz) ?_
  clear b1 b2 b3 b4 hW
  rintro hW z25 ⟨⟨b1,yb1,k1,f1⟩,⟨b2,yb2,k2,f2⟩,⟨b3,yb3,k3,f3⟩,⟨b4,yb4,k4,f4⟩,-⟩
  have hBq:=Uh hRq
  clear hRq
  replace hkq:=Hd hkq
  go_upto_region 8 with(fail)
  clear k1 f1 k2 f2 k3 f3 k4 f4
  refine Ab W (Bc w.heap.size #[.slice (some ⟨bs,os,none⟩) SL.length cs] 24<|Bc (w.heap.size+1) #[.slice (some ⟨bm,om,none⟩) ML.length cm] 27<|Bc W.heap.size #[.string r0.name,r0.eps,r0.floor,r0.last,r0.scale,.slice pr r0.pts.length cr] 35<|Bc (W.heap.size+1) #[.string s0.name,s0.eps,s0.floor,s0.last,s0.scale,.slice p0 s0.segs.length c0,.slice q0 s0.opn.length d0] 79<|Rc (fun W'=>Gd W' q L)<|Bz) ?_ (hI:=by exact Aa) (hR:=(Bc.mk (by exact Ad)<|Bc.mk (by exact Ad)<|Bc.mk (by exact Ad)<|Bc.mk (by exact Ad)<|Rc.mk (by exact hBq)<|trivial))
  clear b1 b2 b3 b4 hW
  rintro W26 hW z27 hL
  obtain⟨⟨b1,yb1,k1,f1⟩,⟨b2,yb2,k2,f2⟩,⟨b3,yb3,k3,f3⟩,⟨b4,yb4,k4,f4⟩,b5,-⟩:=id hL
  clear k1 f1 k2 f2 k3 f3 k4 f4
  refine Bg 40 86 hW hL ?_
  iterate 6 refine dA ?_
  iterate 5 refine gA ?_
  refine pO ?_
  refine dA ?_
  iterate 5 refine gA ?_
  refine pO ?_
  refine dA ?_
  iterate 5 refine gA ?_
  refine pO ?_
  refine dA ?_
  iterate 5 refine gA ?_
  refine pO ?_
  refine dA ?_
  iterate 3 refine gA ?_
  refine cG (fun hp hx W' hC=>cH.out W' (hW.trans (hC.1.of_priv hW.size)) q k hC.2.2.2.2.2.1 hkq.out) ?_
  refine gA ?_
  refine pO ?_
  clear hW hL b1 b2 b3 b4 b5
  rintro W28 hW z29 hL
  simp only[ndR]
  intros
  repeat (rename Am _ _ _ _=>hgd;clear hgd)
  simp only[ndS]
  refine wpList_nil ?_
  obtain⟨⟨b1,yb1,k1,f1⟩,⟨b2,yb2,k2,f2⟩,⟨b3,yb3,k3,f3⟩,⟨b4,yb4,k4,f4⟩,b5,-⟩:=hL
  rw[hv.out]
  cases F with
  |false=>
   go_wp2
   go_ret
   exact⟨by rw[hno.out (by trivial)];rfl,hW0.trans (hW.mono hz)⟩
  |true=>
   go_wp2
   rw[show (i:Int)+1=((i+1:Nat):Int) by omega]
   refine⟨?_,by simp[Ag];omega⟩
   unfold stRel
   exact⟨hW0.trans (hW.mono hz),b1,b2,i+1,Ac rfl,hst.out (by trivial),by omega⟩
 ·obtain rfl:i=ML.length:=by omega
  have hres:=Hd (show RES=true by rw[<-hRES.out,hi])
  clear hi hRES
  go_wp2
  go_ret
  exact⟨by rw[hres.out];rfl,hW0⟩
theorem str_no1 (ps pm:Option Addr) (ns nm cs cm:Nat) (w:World) (c1:Hid (∀W,Below w.heap.size w W->Cb 39 #[.agg #[.slice ps ns cs]] W (.bool false))):
  Cb 12 #[.agg #[.slice ps ns cs],.agg #[.slice pm nm cm]] w (.bool false):=by
 go_enter Tryz.func12,Tryz.ntmps12
 go_upto_region 1 with(fail)
 refine Ab w (Bc w.heap.size #[.slice ps ns cs] 24<|Bc (w.heap.size+1) #[.slice pm nm cm] 27<|Bz) ?_
 rintro W1 hW z2 ⟨⟨b1,yb1,k1,f1⟩,⟨b2,yb2,k2,f2⟩,-⟩
 go_wp2_with fail
 refine(c1.out _ hW).mono ?_
 rintro e w3 ⟨rfl,hb3⟩
 have z4:=hb3.size
 try simp at z4
 clear k1 f1 k2 f2
 refine Aj w w3 (Bc w.heap.size #[.slice ps ns cs] 24<|Bc (w.heap.size+1) #[.slice pm nm cm] 27<|Bz) ?_
 clear b1 b2 hW
 rintro hW z5 ⟨⟨b1,yb1,k1,f1⟩,⟨b2,yb2,k2,f2⟩,-⟩
 clear hb3
 go_wp2
 go_ret
 exact⟨rfl,by exact Aa⟩
theorem str_no2 (ps pm:Option Addr) (ns nm cs cm:Nat) (w:World) (c1:Hid (∀W,Below w.heap.size w W->Cb 39 #[.agg #[.slice ps ns cs]] W (.bool true)))
  (c2:Hid (∀W,Below w.heap.size w W->Cb 18 #[.agg #[.slice pm nm cm]] W (.bool false))):
  Cb 12 #[.agg #[.slice ps ns cs],.agg #[.slice pm nm cm]] w (.bool false):=by
 go_enter Tryz.func12,Tryz.ntmps12
 go_upto_region 1 with(fail)
 refine Ab w (Bc w.heap.size #[.slice ps ns cs] 24<|Bc (w.heap.size+1) #[.slice pm nm cm] 27<|Bz) ?_
 rintro W1 hW z2 ⟨⟨b1,yb1,k1,f1⟩,⟨b2,yb2,k2,f2⟩,-⟩
 go_wp2_with fail
 refine(c1.out _ hW).mono ?_
 rintro e w3 ⟨rfl,hb3⟩
 have z4:=hb3.size
 try simp at z4
 clear k1 f1 k2 f2
 refine Aj w w3 (Bc w.heap.size #[.slice ps ns cs] 24<|Bc (w.heap.size+1) #[.slice pm nm cm] 27<|Bz) ?_
 clear b1 b2 hW
 rintro hW z5 ⟨⟨b1,yb1,k1,f1⟩,⟨b2,yb2,k2,f2⟩,-⟩
 clear hb3
 go_wp2_with fail
 refine(c2.out _ hW).mono ?_
 rintro e w6 ⟨rfl,hb6⟩
 have z7:=hb6.size
 try simp at z7
 clear k1 f1 k2 f2
 refine Aj w w6 (Bc w.heap.size #[.slice ps ns cs] 24<|Bc (w.heap.size+1) #[.slice pm nm cm] 27<|Bz) ?_
 clear b1 b2 hW
 rintro hW z8 ⟨⟨b1,yb1,k1,f1⟩,⟨b2,yb2,k2,f2⟩,-⟩
 clear hb6
 go_wp2
 go_ret
 exact⟨rfl,by exact Aa⟩
theorem str_no3 (ps pm:Option Addr) (ns nm cs cm:Nat) (w:World) (hne:((ns:Int) !=(nm:Int))=true) (c1:Hid (∀W,Below w.heap.size w W->Cb 39 #[.agg #[.slice ps ns cs]] W (.bool true)))
  (c2:Hid (∀W,Below w.heap.size w W->Cb 18 #[.agg #[.slice pm nm cm]] W (.bool true))):
  Cb 12 #[.agg #[.slice ps ns cs],.agg #[.slice pm nm cm]] w (.bool false):=by
 go_enter Tryz.func12,Tryz.ntmps12
 go_upto_region 1 with(fail)
 refine Ab w (Bc w.heap.size #[.slice ps ns cs] 24<|Bc (w.heap.size+1) #[.slice pm nm cm] 27<|Bz) ?_
 rintro W1 hW z2 ⟨⟨b1,yb1,k1,f1⟩,⟨b2,yb2,k2,f2⟩,-⟩
 go_wp2_with fail
 refine(c1.out _ hW).mono ?_
 rintro e w3 ⟨rfl,hb3⟩
 have z4:=hb3.size
 try simp at z4
 clear k1 f1 k2 f2
 refine Aj w w3 (Bc w.heap.size #[.slice ps ns cs] 24<|Bc (w.heap.size+1) #[.slice pm nm cm] 27<|Bz) ?_
 clear b1 b2 hW
 rintro hW z5 ⟨⟨b1,yb1,k1,f1⟩,⟨b2,yb2,k2,f2⟩,-⟩
 clear hb3
 go_wp2_with fail
 refine(c2.out _ hW).mono ?_
 rintro e w6 ⟨rfl,hb6⟩
 have z7:=hb6.size
 try simp at z7
 clear k1 f1 k2 f2
 refine Aj w w6 (Bc w.heap.size #[.slice ps ns cs] 24<|Bc (w.heap.size+1) #[.slice pm nm cm] 27<|Bz) ?_
 clear b1 b2 hW
 rintro hW z8 ⟨⟨b1,yb1,k1,f1⟩,⟨b2,yb2,k2,f2⟩,-⟩
 clear hb6
 go_wp2
 go_ret
 exact⟨rfl,by exact Aa⟩
theorem str_yes (ps pm:Option Addr) (cs cm:Nat) (SL:List A8) (ML:List At) (w:World) (hS:Gr w ps SL) (hM:D3 w pm ML) (hsB:okS SL SL.length=true) (hmB:okN ML ML.length=true) (hlm:SL.length=ML.length) (hl8:ML.length<=8)
  (c1:Hid (∀W,Below w.heap.size w W->Cb 39 #[.agg #[.slice ps SL.length cs]] W (.bool true)))
  (c2:Hid (∀W,Below w.heap.size w W->Cb 18 #[.agg #[.slice pm ML.length cm]] W (.bool true))):
  Cb 12 #[.agg #[.slice ps SL.length cs],.agg #[.slice pm ML.length cm]] w (.bool (stN SL ML ML.length)):=by
 obtain⟨RES,hRES⟩:∃x,stN SL ML ML.length=x:=⟨_,rfl⟩
 rw[hRES]
 replace hRES:=Hd hRES
 have hne:((SL.length:Int) !=(ML.length:Int))=false:=by rw[hlm];simp
 replace hlm:=Hd hlm
 go_enter Tryz.func12,Tryz.ntmps12
 go_upto_region 1 with(fail)
 refine Ab w (Bc w.heap.size #[.slice ps SL.length cs] 24<|Bc (w.heap.size+1) #[.slice pm ML.length cm] 27<|Bz) ?_
 rintro W1 hW z2 ⟨⟨b1,yb1,k1,f1⟩,⟨b2,yb2,k2,f2⟩,-⟩
 go_wp2_with fail
 refine(c1.out _ hW).mono ?_
 rintro e w3 ⟨rfl,hb3⟩
 have z4:=hb3.size
 try simp at z4
 clear k1 f1 k2 f2
 refine Aj w w3 (Bc w.heap.size #[.slice ps SL.length cs] 24<|Bc (w.heap.size+1) #[.slice pm ML.length cm] 27<|Bz) ?_
 clear b1 b2 hW
 rintro hW z5 ⟨⟨b1,yb1,k1,f1⟩,⟨b2,yb2,k2,f2⟩,-⟩
 clear hb3
 go_wp2_with fail
 refine(c2.out _ hW).mono ?_
 rintro e w6 ⟨rfl,hb6⟩
 have z7:=hb6.size
 try simp at z7
 clear k1 f1 k2 f2
 refine Aj w w6 (Bc w.heap.size #[.slice ps SL.length cs] 24<|Bc (w.heap.size+1) #[.slice pm ML.length cm] 27<|Bz) ?_
 clear b1 b2 hW
 rintro hW z8 ⟨⟨b1,yb1,k1,f1⟩,⟨b2,yb2,k2,f2⟩,-⟩
 clear hb6
 go_wp2
 clear k1 f1 k2 f2
 refine wp_loop (Vp w ps pm cs cm SL ML) (fun a' _=>ML.length-(Ag (a'.tmps.getD 30 undef)).toNat) ?_ ?_
 ·unfold Vp
  exact⟨hW,b1,b2,0,Ac rfl,rfl,Nat.zero_le _⟩
 clear b1 b2 hW c1 c2 hne
 rintro a' W ⟨hW0,b1,b2,i,⟨u,rfl⟩,hi,hi'⟩
 have hz:=hW0.size
 have yb1:=b1.lt
 have yb2:=b2.lt
 rcases Nat.lt_or_ge i ML.length with hlt|hge
 ·obtain⟨r0,tr⟩:∃x,ML[i]? =some x:=⟨ML[i]'(by omega),List.getElem?_eq_getElem (by omega)⟩
  obtain⟨s0,ts⟩:∃x,SL[i]? =some x:=⟨SL[i]'(by have:=hlm.out;omega),List.getElem?_eq_getElem (by have:=hlm.out;omega)⟩
  obtain⟨bs,os,p0,c0,q0,d0,rfl,h1,hser⟩:=(hS.below hW0).at' i _ ts
  obtain⟨bm,om,pr,cr,rfl,h2,hpr,hpc⟩:=(hM.below hW0).at' i _ tr
  have hsc:=okS_at hsB ts
  have hrB:=okN_at hmB tr
  have hnx:=X2 ts tr
  rw[hi,Bool.true_and] at hnx
  have hlS:i<SL.length:=(List.getElem?_eq_some_iff.1 ts).1
  obtain⟨L,hL⟩:∃L,Ef s0 0 281474976710656=L:=⟨_,rfl⟩
  obtain⟨hl3,hlv⟩:=T2 hsc hser.fewS hser.fewO
  rw[hL] at hl3 hlv
  have hf1:=(Hq hrB).2.1
  have cBk:=fun W' (hW':Below W.heap.size W W')=>Zs s0 p0 c0 q0 d0 0 281474976710656 W' (hser.below hW') hsc
  unfold Dy at cBk
  rw[hL] at cBk
  replace cBk:=Hd cBk
  obtain⟨E,hE⟩:∃E,stErr L=E:=⟨_,rfl⟩
  have cH:=Hd (fun W' (hW':Below W.heap.size W W') q k (hB:Gd W' q L)=>Zu (cap:=cr) hrB 0 281474976710656 E q L k (hpr.below hW') hB hl3 hlv)
  unfold Dw at cH h2
  unfold Dy at h1
  obtain⟨F,hF⟩:∃B,stAt s0 r0=B:=⟨_,rfl⟩
  rw[hF] at hnx
  have hno:=Hd (fun(e:F=false)=>(show RES=false by rw[<-hRES.out];exact stN_no (hnx.trans e) hlt))
  have hst:=Hd (fun(e:F=true)=>(show stN SL ML (i+1)=true from hnx.trans e))
  obtain⟨SB,hSB⟩:∃B,Jb r0.eps E (B4 0 281474976710656 r0.pts) L=B:=⟨_,rfl⟩
  rw[hSB] at cH
  obtain⟨H,hH⟩:∃B,Vr s0 r0=B:=⟨_,rfl⟩
  have hvh:=Hd (show ((((!(s0.name.toList==r0.name.toList)||(s0.eps !=r0.eps))||(s0.scale !=r0.scale))||(s0.floor !=r0.floor))||(s0.last !=r0.last))= !H by
   rw[<-hH]
   unfold Vr
   simp[bne,Bool.not_and,Bool.or_assoc])
  have hFH:F=(H&&SB):=by rw[<-hF];unfold stAt;rw[hL,hE,hSB,hH]
  have hF0:=Hd (fun(e:H=false)=>(show F=false by rw[hFH,e];rfl))
  have hFS:=Hd (fun(e:H=true)=>(show SB=F by rw[hFH,e];rfl))
  have hE':=Hd (show (E=9/\((L.length:Int)==0)=true)∨(E=0/\((L.length:Int)==0)=false) by
   rw[<-hE]
   unfold stErr
   cases L with
   |nil=>exact .inl ⟨rfl,rfl⟩
   |cons x l=>exact .inr ⟨by simp,by simp;omega⟩)
  replace hE:=hE'
  clear hE'
  have s0_:=h1 0 _ rfl
  have s1:=h1 1 _ rfl
  have s2:=h1 2 _ rfl
  have s3:=h1 3 _ rfl
  have s4:=h1 4 _ rfl
  have s5:=h1 5 _ rfl
  have s6:=h1 6 _ rfl
  have t0:=h2 0 _ rfl
  have t1:=h2 1 _ rfl
  have t2:=h2 2 _ rfl
  have t3:=h2 3 _ rfl
  have t4:=h2 4 _ rfl
  have t5:=h2 5 _ rfl
  simp only[Nat.add_zero] at s0_ t0
  have zs9:=Ap s0_
  have zt9:=Ap t0
  try simp only at zs9 zt9
  clear h1 h2 hL hser hpr hpc hf1 hsc hrB tr ts hi hnx hlv hl3 hSB hF hmB hsB hS hM hH hFH
  have k1:=b1.cell
  have f1:=b1.frozen
  have k2:=b2.cell
  have f2:=b2.frozen
  go_upto_region 7 with(fail)
  clear k1 f1 k2 f2
  refine Ab W (Bc w.heap.size #[.slice (some ⟨bs,os,none⟩) SL.length cs] 24<|Bc (w.heap.size+1) #[.slice (some ⟨bm,om,none⟩) ML.length cm] 27<|Bc W.heap.size #[.string r0.name,r0.eps,r0.floor,r0.last,r0.scale,.slice pr r0.pts.length cr] 35<|Bc (W.heap.size+1) #[.string s0.name,s0.eps,s0.floor,s0.last,s0.scale,.slice p0 s0.segs.length c0,.slice q0 s0.opn.length d0] 79<|Bz) ?_
  clear b1 b2
  rintro W21 hW z22 ⟨⟨b1,yb1,k1,f1⟩,⟨b2,yb2,k2,f2⟩,⟨b3,yb3,k3,f3⟩,⟨b4,yb4,k4,f4⟩,-⟩
  clear s0_ s1 s2 s3 s4 s5 s6 t0 t1 t2 t3 t4 t5 zs9 zt9
  go_upto_region 7 with(fail)
  clear k1 f1 k2 f2 k3 f3 k4 f4
  refine Ab W (Bc w.heap.size #[.slice (some ⟨bs,os,none⟩) SL.length cs] 24<|Bc (w.heap.size+1) #[.slice (some ⟨bm,om,none⟩) ML.length cm] 27<|Bc W.heap.size #[.string r0.name,r0.eps,r0.floor,r0.last,r0.scale,.slice pr r0.pts.length cr] 35<|Bc (W.heap.size+1) #[.string s0.name,s0.eps,s0.floor,s0.last,s0.scale,.slice p0 s0.segs.length c0,.slice q0 s0.opn.length d0] 79<|Bz) ?_
  clear b1 b2 b3 b4 hW
  rintro W23 hW z24 hL
  refine Bg 33 84 hW hL ?_
  iterate 6 refine dA ?_
  iterate 5 refine gA ?_
  refine pO ?_
  refine dA ?_
  iterate 5 refine gA ?_
  refine pO ?_
  refine dA ?_
  iterate 5 refine gA ?_
  refine pO ?_
  refine dA ?_
  iterate 5 refine gA ?_
  refine pO ?_
  clear hW hL
  rintro W25 hW z26 hL
  simp only[ndR]
  intros
  repeat (rename Am _ _ _ _=>hgd;clear hgd)
  simp only[ndS]
  refine wpList_nil ?_
  obtain⟨⟨b1,yb1,k1,f1⟩,⟨b2,yb2,k2,f2⟩,⟨b3,yb3,k3,f3⟩,⟨b4,yb4,k4,f4⟩,-⟩:=hL
  rw[hvh.out]
  cases H with
  |false=>
   go_wp2
   go_ret
   exact⟨by rw[hno.out (hF0.out (by trivial))];rfl,hW0.trans (hW.mono hz)⟩
  |true=>
   have cH0:=cH.out
   rw[hFS.out (by trivial)] at cH0
   replace cH0:=Hd cH0
   clear cH
   go_wp2_with fail
   refine(cBk.out _ hW).mono ?_
   rintro e w27 ⟨q,k,rfl,hRq,hb27⟩
   have z28:=hb27.size
   try simp at z28
   clear k1 f1 k2 f2 k3 f3 k4 f4
   refine Aj W w27 (Bc w.heap.size #[.slice (some ⟨bs,os,none⟩) SL.length cs] 24<|Bc (w.heap.size+1) #[.slice (some ⟨bm,om,none⟩) ML.length cm] 27<|Bc W.heap.size #[.string r0.name,r0.eps,r0.floor,r0.last,r0.scale,.slice pr r0.pts.length cr] 35<|Bc (W.heap.size+1) #[.string s0.name,s0.eps,s0.floor,s0.last,s0.scale,.slice p0 s0.segs.length c0,.slice q0 s0.opn.length d0] 79<|Bz) ?_
   clear b1 b2 b3 b4 hW
   rintro hW z29 ⟨⟨b1,yb1,k1,f1⟩,⟨b2,yb2,k2,f2⟩,⟨b3,yb3,k3,f3⟩,⟨b4,yb4,k4,f4⟩,-⟩
   have hBq:=Uh hRq
   clear hRq
   have cH':=fun W' (hW':Below w27.heap.size w27 W')=>cH0.out W' (hW.trans (hW'.mono (by omega))) q k (hBq.below hW')
   clear cH0 hBq
   rcases hE.out with⟨hE1,hE2⟩|⟨hE1,hE2⟩
   ·rw[hE1] at cH'
    replace cH':=Hd cH'
    go_wp2_with fail
    refine(cH'.out _ Aa).mono ?_
    rintro e w30 ⟨rfl,hb30⟩
    have z31:=hb30.size
    try simp at z31
    clear k1 f1 k2 f2 k3 f3 k4 f4
    refine Aj W w30 (Bc w.heap.size #[.slice (some ⟨bs,os,none⟩) SL.length cs] 24<|Bc (w.heap.size+1) #[.slice (some ⟨bm,om,none⟩) ML.length cm] 27<|Bc W.heap.size #[.string r0.name,r0.eps,r0.floor,r0.last,r0.scale,.slice pr r0.pts.length cr] 35<|Bc (W.heap.size+1) #[.string s0.name,s0.eps,s0.floor,s0.last,s0.scale,.slice p0 s0.segs.length c0,.slice q0 s0.opn.length d0] 79<|Bz) ?_
    clear b1 b2 b3 b4 hW
    rintro hW z32 ⟨⟨b1,yb1,k1,f1⟩,⟨b2,yb2,k2,f2⟩,⟨b3,yb3,k3,f3⟩,⟨b4,yb4,k4,f4⟩,-⟩
    clear hb30
    cases F with
    |false=>
     go_wp2
     go_ret
     exact⟨by rw[hno.out (by trivial)];rfl,hW0.trans (hW.mono hz)⟩
    |true=>
     go_wp2
     rw[show (i:Int)+1=((i+1:Nat):Int) by omega]
     refine⟨?_,by simp[Ag];omega⟩
     unfold Vp
     exact⟨hW0.trans (hW.mono hz),b1,b2,i+1,Ac rfl,hst.out (by trivial),by omega⟩
   ·rw[hE1] at cH'
    replace cH':=Hd cH'
    go_wp2_with fail
    refine(cH'.out _ Aa).mono ?_
    rintro e w30 ⟨rfl,hb30⟩
    have z31:=hb30.size
    try simp at z31
    clear k1 f1 k2 f2 k3 f3 k4 f4
    refine Aj W w30 (Bc w.heap.size #[.slice (some ⟨bs,os,none⟩) SL.length cs] 24<|Bc (w.heap.size+1) #[.slice (some ⟨bm,om,none⟩) ML.length cm] 27<|Bc W.heap.size #[.string r0.name,r0.eps,r0.floor,r0.last,r0.scale,.slice pr r0.pts.length cr] 35<|Bc (W.heap.size+1) #[.string s0.name,s0.eps,s0.floor,s0.last,s0.scale,.slice p0 s0.segs.length c0,.slice q0 s0.opn.length d0] 79<|Bz) ?_
    clear b1 b2 b3 b4 hW
    rintro hW z32 ⟨⟨b1,yb1,k1,f1⟩,⟨b2,yb2,k2,f2⟩,⟨b3,yb3,k3,f3⟩,⟨b4,yb4,k4,f4⟩,-⟩
    clear hb30
    cases F with
    |false=>
     go_wp2
     go_ret
     exact⟨by rw[hno.out (by trivial)];rfl,hW0.trans (hW.mono hz)⟩
    |true=>
     go_wp2
     rw[show (i:Int)+1=((i+1:Nat):Int) by omega]
     refine⟨?_,by simp[Ag];omega⟩
     unfold Vp
     exact⟨hW0.trans (hW.mono hz),b1,b2,i+1,Ac rfl,hst.out (by trivial),by omega⟩
 ·obtain rfl:i=ML.length:=by omega
  have hres:=Hd (show RES=true by rw[<-hRES.out,hi])
  clear hi hRES
  go_wp2
  go_ret
  exact⟨by rw[hres.out];rfl,hW0⟩
theorem c_mdStands (ps pm:Option Addr) (cs cm:Nat) (SL:List A8) (ML:List At) (w:World) (hS:Gr w ps SL) (hM:D3 w pm ML) (hfw:Tu ML) (hs9:SL.length<=100) (hm9:ML.length<=100):
  Cb 10 #[.agg #[.slice ps SL.length cs],.agg #[.slice pm ML.length cm]] w (.bool (Ns SL ML)):=by
 have c1:=Hd (fun W (hW:Below w.heap.size w W)=>c_shCheck ps cs SL W (hS.below hW) hs9)
 have c2:=Hd (fun W (hW:Below w.heap.size w W)=>c_mdCheck pm cm ML W (hM.below hW) hfw hm9)
 unfold Ns
 cases h1:Fh SL with
 |false=>rw[O7 h1] at c1;exact st_no1 ps pm _ _ cs cm w c1
 |true=>
  rw[Q9 h1] at c1
  cases h2:Gi ML with
  |false=>rw[h2] at c2;exact st_no2 ps pm _ _ cs cm w c1 c2
  |true=>
   rw[h2] at c2
   by_cases h3:SL.length=ML.length
   ·rw[decide_eq_true h3]
    unfold Fh at h1
    unfold Gi at h2
    simp only[Bool.and_eq_true,decide_eq_true_eq] at h1 h2
    exact st_yes ps pm cs cm SL ML w hS hM h1.1 h2.1 h3 h2.2 c1 c2
   ·rw[decide_eq_false h3]
    exact st_no3 ps pm _ _ cs cm w (by simp;omega) c1 c2
theorem To (ps pm:Option Addr) (cs cm:Nat) (SL:List A8) (ML:List At) (w:World) (hS:Gr w ps SL) (hM:D3 w pm ML) (hfm:FewM SL) (hfw:Tu ML) (hfn:FewN ML) (hs9:SL.length<=100) (hm9:ML.length<=100):
  Cb 12 #[.agg #[.slice ps SL.length cs],.agg #[.slice pm ML.length cm]] w (.bool (Ns SL ML)):=by
 have c1:=Hd (fun W (hW:Below w.heap.size w W)=>Xe ps cs SL W (hS.below hW) hfm hs9)
 have c2:=Hd (fun W (hW:Below w.heap.size w W)=>Xd pm cm ML W (hM.below hW) hfw hfn hm9)
 unfold Ns
 cases h1:Fh SL with
 |false=>rw[h1] at c1;exact str_no1 ps pm _ _ cs cm w c1
 |true=>
  rw[h1] at c1
  cases h2:Gi ML with
  |false=>rw[h2] at c2;exact str_no2 ps pm _ _ cs cm w c1 c2
  |true=>
   rw[h2] at c2
   by_cases h3:SL.length=ML.length
   ·rw[decide_eq_true h3]
    unfold Fh at h1
    unfold Gi at h2
    simp only[Bool.and_eq_true,decide_eq_true_eq] at h1 h2
    exact str_yes ps pm cs cm SL ML w hS hM h1.1 h2.1 h3 h2.2 c1 c2
   ·rw[decide_eq_false h3]
    exact str_no3 ps pm _ _ cs cm w (by simp;omega) c1 c2
def cmpN (a b:ByteArray):Int:=if Op.bytesLess a.toList b.toList then-1 else if a.toList==b.toList then 0 else 1
def SortedN (rows:List At):Prop:=∀(k l:Nat) a b,k<l->rows[k]? =some a->rows[l]? =some b->Op.bytesLess a.name.toList b.name.toList=true
structure PosAt (rows:List At) (nm:ByteArray) (i:Nat):Prop where
 le:i<=rows.length
 lo:∀(k:Nat) r,k<i->rows[k]? =some r->Op.bytesLess r.name.toList nm.toList=true
 hi:∀(k:Nat) r,i<=k->rows[k]? =some r->Op.bytesLess r.name.toList nm.toList=false
def foundB (rows:List At) (nm:ByteArray) (i:Nat):Bool:=match rows[i]? with
 |some r=>r.name.toList==nm.toList
 |none=>false
def bsRel (w:World) (p:Option Addr) (cap:Nat) (rows:List At) (nm:ByteArray) (a':Act) (W:World):Prop:=
 Below w.heap.size w W/\∃i j:Nat,(∃u:Nat->Value,a'= {tmps:= #[.slice p rows.length cap,.string nm,.func (.func 120) #[] #[],u 3,u 4,u 5,u 6,u 7,.int .i64 (rows.length:Int),.int .i64 (i:Int),.int .i64 (j:Int),u 11,u 12,u 13,u 14,u 15,u 16,u 17,u 18,u 19,u 20,u 21,u 22,u 23,u 24,u 25,u 26,u 27,u 28,u 29,u 30,u 31,u 32,u 33,u 34,u 35,u 36,u 37,u 38,u 39,u 40,u 41,u 42,u 43,u 44,u 45,u 46,u 47,u 48],defers:= []})/\i<=j/\j<=rows.length/\(∀(k:Nat) r,k<i->rows[k]? =some r->Op.bytesLess r.name.toList nm.toList=true)/\(∀(k:Nat) r,j<=k->rows[k]? =some r->Op.bytesLess r.name.toList nm.toList=false)
theorem D3.list {w:World} {ad:Addr} {rows:List At} (h:D3 w (some ad) rows):∃RL:List D6,RL.map (·.r)=rows/\(∀j v,(By RL)[j]? =some v->w.cell? (ad.add j)=some v)/\∀x∈RL,Ar w x.p x.r.pts/\x.r.pts.length<=x.cap/\(x.p=none->x.cap=0):=by
 have key:∀n,n<=rows.length->∃RL:List D6,RL.map (·.r)=rows.take n/\(∀j v,(By RL)[j]? =some v->w.cell? (ad.add j)=some v)/\∀x∈RL,Ar w x.p x.r.pts/\x.r.pts.length<=x.cap/\(x.p=none->x.cap=0):=by
  intro n
  induction n with
  |zero=>exact fun _=>⟨[],by simp,fun j v hj=>by simp[By] at hj,fun x hx=>by cases hx⟩
  |succ n ih=>
   intro hn
   obtain⟨RL,h1,h2,h3⟩:=ih (by omega)
   have hr:rows[n]? =some (rows[n]'(by omega)):=List.getElem?_eq_getElem (by omega)
   obtain⟨b,o,p',cap',e,hc,hp⟩:=h.at' n _ hr
   injection e with e
   subst e
   have hl:RL.length=n:=by
    have:=congrArg List.length h1
    rw[List.length_map,List.length_take] at this
    omega
   refine⟨RL++ [⟨rows[n]'(by omega),p',cap'⟩],?_,fun j v hj=> ?_,fun x hx=> ?_⟩
   ·rw[List.map_append,h1,List.take_add_one,hr];rfl
   ·rw[Mr] at hj
    rcases Nat.lt_or_ge j (By RL).length with h4|h4
    ·rw[List.getElem?_append_left h4] at hj
     exact h2 j v hj
    ·rw[List.getElem?_append_right h4,Kd,hl] at hj
     rw[Kd,hl] at h4
     have hadd:(⟨b,o,none⟩:Addr).add j=⟨b,o+j,none⟩:=by unfold Addr.add;split<;>simp_all
     have h5:=hc (j-n*6) v (by rw[Array.getElem?_toList] at hj;exact hj)
     rw[hadd,show o+j=o+n*6+(j-n*6) by omega]
     exact h5
   ·rcases List.mem_append.1 hx with h4|h4
    ·exact h3 x h4
    ·rw[List.mem_singleton.1 h4]
     exact hp
 obtain⟨RL,h1,h2,h3⟩:=key rows.length (Nat.le_refl _)
 exact⟨RL,by rw[h1,List.take_length],h2,h3⟩
structure OwnX (w W:World) (x:D6):Prop where
 src:Ar w x.p x.r.pts∨Cc W w.heap.size x.p x.r.pts
 cap:x.r.pts.length<=x.cap
 nil:x.p=none->x.cap=0
theorem OwnX.pts {w W:World} {x:D6} (h:OwnX w W x) (hW:Below w.heap.size w W):Ar W x.p x.r.pts:=by
 rcases h.src with h1|h1
 ·exact h1.below hW
 ·exact h1.pts
structure Ts (w W:World) (RL:List D6):Prop where
 at':∀x,x∈RL->OwnX w W x
theorem Ts.below {w W W':World} {RL:List D6} (h:Ts w W RL) (hb:Below W.heap.size W W'):Ts w W' RL:=⟨fun x hx=>⟨(h.at' x hx).src.imp (fun a=>a) (fun a=>a.below hb),(h.at' x hx).cap,(h.at' x hx).nil⟩⟩
theorem Ts.set {w W:World} {RL:List D6} {i j G c':Nat} {r0:At} {p':Option Addr} {cs:Array Value} {u:Value} (h:Ts w W RL) (hG:Blk W G cs 35) (hP:Cc W w.heap.size p' r0.pts) (hc:r0.pts.length<=c') (hn:p'=none->c'=0):Ts w (W.setCell ⟨G,j,none⟩ u) (RL.set i ⟨r0,p',c'⟩):=⟨fun x hx=>by
 rcases List.mem_or_eq_of_mem_set hx with h1|h1
 ·exact⟨(h.at' x h1).src.imp (fun a=>a) (fun a=>a.other hG (by decide)),(h.at' x h1).cap,(h.at' x h1).nil⟩
 ·rw[h1]
  exact⟨.inr (hP.other hG (by decide)),hc,hn⟩⟩
theorem Ts.raws {w W:World} {RL:List D6} {rows:List At} {G:Nat} (h:Ts w W RL) (hRL:RL.map (·.r)=rows) (hG:Blk W G (By RL).toArray 35) (hW:Below w.heap.size w W):D3 W (some ⟨G,0,none⟩) rows:=⟨fun i r hr=>by
 rw[<-hRL,List.getElem?_map] at hr
 obtain⟨x,hx,rfl⟩:=Option.map_eq_some_iff.1 hr
 have hm:=h.at' x (List.mem_of_getElem? hx)
 refine⟨G,0,x.p,x.cap,rfl,fun j v hv=> ?_,hm.pts hW,hm.cap,hm.nil⟩
 rw[hG.cell,Nat.zero_add,List.getElem?_toArray]
 exact Ke RL i x j v hx hv⟩
def Xk (w W:World) (RL:List D6) (i:Nat):Prop:=∀(k:Nat) x,k<i->RL[k]? =some x->Cc W w.heap.size x.p x.r.pts
theorem Xk.below {w W W':World} {RL:List D6} {i:Nat} (h:Xk w W RL i) (hb:Below W.heap.size W W'):Xk w W' RL i:=fun k x hk hx=>(h k x hk hx).below hb
theorem Xk.set {w W:World} {RL:List D6} {i j G c':Nat} {r0:At} {p':Option Addr} {cs:Array Value} {u:Value} (h:Xk w W RL i) (hG:Blk W G cs 35) (hP:Cc W w.heap.size p' r0.pts):Xk w (W.setCell ⟨G,j,none⟩ u) (RL.set i ⟨r0,p',c'⟩) (i+1):=fun k x hk hx=>by
 rw[List.getElem?_set] at hx
 by_cases hik:i=k
 ·rw[if_pos hik] at hx
  by_cases hl:i<RL.length
  ·rw[if_pos hl] at hx
   obtain rfl:=Option.some.inj hx
   exact hP.other hG (by decide)
  ·rw[if_neg hl] at hx;cases hx
 ·rw[if_neg hik] at hx
  exact(h k x (by omega) hx).other hG (by decide)
theorem Xk.rows {w W:World} {RL:List D6} {i o j:Nat} {cs:Array Value} {u:Value} (h:Xk w W RL i) (hi:RL.length<=i) (hK:Ts w W RL) (hB:Blk W o cs 27):Fk (W.setCell ⟨o,j,none⟩ u) w.heap.size RL:=⟨fun x hx=>by
 obtain⟨k,hk⟩:=List.getElem?_of_mem hx
 have hl:=(List.getElem?_eq_some_iff.1 hk).1
 exact⟨(h k x (by omega) hk).other hB (by decide),(hK.at' x hx).cap,(hK.at' x hx).nil⟩⟩
def mdoRel (w:World) (p:Option Addr) (cap:Nat) (rows:List At) (G:Nat) (a':Act) (W:World):Prop:=
 Below w.heap.size w W/\Blk W w.heap.size #[.slice p rows.length cap] 27/\Blk W (w.heap.size+1) #[.slice none 0 0] 27/\∃(i:Nat) (RL:List D6),(∃u:Nat->Value,a'= {tmps:= #[u 0,.pointer (some ⟨w.heap.size,0,none⟩),.pointer (some ⟨(w.heap.size+1),0,none⟩),.slice (some ⟨G,0,none⟩) rows.length rows.length,u 4,u 5,u 6,u 7,u 8,u 9,u 10,u 11,u 12,u 13,.slice (some ⟨G,0,none⟩) rows.length rows.length,.int .i64 (rows.length:Int),.int .i64 (i:Int),u 17,u 18,u 19,u 20,u 21,u 22,u 23,u 24,u 25,u 26,u 27,u 28,u 29,u 30],defers:= []})/\Blk W G (By RL).toArray 35/\RL.map (·.r)=rows/\Ts w W RL/\i<=rows.length/\Xk w W RL i
def posN:List At->ByteArray->Nat
 | [],_=>0
 |r::l,nm=>if Op.bytesLess r.name.toList nm.toList=true then posN l nm+1 else 0
theorem PosAt.is {nm:ByteArray}:∀ {rows:List At} {i:Nat},PosAt rows nm i->i=posN rows nm
 | [],i,h=>by have:=h.le;simp at this;simp[posN,this]
 |r::l,0,h=>by
  have:=h.hi 0 r (Nat.le_refl _) rfl
  simp[posN,this]
 |r::l,i+1,h=>by
  have h0:=h.lo 0 r (by omega) rfl
  have ih:=PosAt.is (rows:=l) (i:=i) ⟨by have:=h.le;simpa using this,fun k q hk hq=>h.lo (k+1) q (by omega) (by simpa using hq),fun k q hk hq=>h.hi (k+1) q (by omega) (by simpa using hq)⟩
  simp[posN,h0,ih]
def zeroR:At:=⟨.empty,0,0,0,0,[]⟩
def getR (rows:List At) (nm:ByteArray):At×Int:=
 if Gi rows=true then
  if foundB rows nm (posN rows nm)=true then (rows.getD (posN rows nm) zeroR,0) else (zeroR,372)
 else (zeroR,380)
theorem Fk.mono {w:World} {B B':Nat} {l:List D6} (h:Fk w B l) (hB:B'<=B):Fk w B' l:=⟨fun x hx=>⟨(h.at' x hx).1.mono hB,(h.at' x hx).2⟩⟩

def mtRel (w:World) (px py:Option Addr) (nx cx ny cy:Nat) (nm9:ByteArray) (A B:List At) (RB:Bool) (CV:Int) (pa pb:Option Addr) (ca cb o7 o8:Nat) (a':Act) (W:World):Prop:=
 Below w.heap.size w W/\Blk W w.heap.size #[.slice px nx cx] 27/\Blk W (w.heap.size+1) #[.slice py ny cy] 27/\Blk W o7 #[.slice pa A.length ca] 27/\Blk W o8 #[.slice pb B.length cb] 27/\Ew 0 A (.agg #[.slice pa A.length ca]) W/\Ew 0 B (.agg #[.slice pb B.length cb]) W/\∃i:Nat,(∃u:Nat->Value,a'= {tmps:= #[u 0,u 1,.string nm9,.pointer (some ⟨w.heap.size,0,none⟩),.pointer (some ⟨(w.heap.size+1),0,none⟩),u 5,.bool false,.pointer (some ⟨o7,0,none⟩),.pointer (some ⟨o8,0,none⟩),.bool RB,.int .i64 CV,u 11,u 12,u 13,u 14,u 15,u 16,u 17,u 18,u 19,u 20,u 21,u 22,u 23,u 24,u 25,u 26,u 27,u 28,u 29,u 30,u 31,u 32,u 33,u 34,u 35,u 36,u 37,u 38,u 39,u 40,u 41,u 42,u 43,u 44,u 45,u 46,u 47,u 48,u 49,u 50,u 51,u 52,u 53,u 54,u 55,u 56,u 57,u 58,u 59,u 60,.slice pa A.length ca,.int .i64 (A.length:Int),.int .i64 (i:Int),u 64,u 65,u 66,u 67,u 68,u 69,u 70,u 71,u 72,u 73,u 74,u 75,u 76,u 77,u 78,u 79,u 80,u 81,u 82,u 83,u 84,u 85,u 86,u 87,u 88,u 89,u 90,u 91,u 92,u 93,u 94,u 95,u 96,u 97,u 98,u 99,u 100,u 101,u 102,u 103,u 104,u 105,u 106,u 107,u 108,u 109,u 110,u 111,u 112,u 113,u 114,u 115,u 116,u 117,u 118,u 119,u 120,u 121,u 122,u 123,u 124,u 125,u 126,u 127,u 128],defers:= []})/\i<=A.length
theorem fewP_own (X:List At):Tu ((X.take 9).map Ej):=fun i r hr=>by
 rw[List.getElem?_map] at hr
 obtain⟨x,-,rfl⟩:=Option.map_eq_some_iff.1 hr
 have:=rawOf_len x
 omega
theorem fewN_own (X:List At):FewN ((X.take 9).map Ej):=fun i r hr=>by
 rw[List.getElem?_map] at hr
 obtain⟨x,-,rfl⟩:=Option.map_eq_some_iff.1 hr
 have:=rawOf_name x
 omega
theorem own_len (X:List At):((X.take 9).map Ej).length<=100:=by
 rw[List.length_map,List.length_take]
 omega
theorem Ew.got {B:Nat} {rows:List At} {p:Option Addr} {c:Nat} {w:World} (h:Ew B rows (.agg #[.slice p rows.length c]) w):D3 w p rows/\(p=none->c=0):=by
 obtain⟨p9,c9,e9,h1,h2⟩:=h.form
 simp only[Value.agg.injEq,Array.mk.injEq,List.cons.injEq,Value.slice.injEq,and_true,true_and] at e9
 obtain⟨rfl,rfl⟩:=e9
 exact⟨h1,h2⟩
end Go.Proofs.YtdeghcgakkhbmaaGreat
