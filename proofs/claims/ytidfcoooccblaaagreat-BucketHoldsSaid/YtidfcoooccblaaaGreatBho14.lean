/- Parts of the proof that follows. No condition. -/
import Derived.Laws.AppendOwnNone
import Derived.Test.YtidfcoooccblaaaGreatBho13
set_option maxRecDepth 100000
set_option maxHeartbeats 8000000
set_option linter.unusedSimpArgs false
set_option linter.unusedVariables false
namespace Go.Proofs.YtidfcoooccblaaaGreat
open Go.RowKit
def Cz:A3:=⟨⟨#[97]⟩,2,3,12,0,[⟨1,[⟨0,2,4⟩],10,0,0,1,[],1⟩],[(9,20),(12,5)]⟩
theorem A9.alloc {w:World} {s:A3} {ps po:Option Addr} (h:A9 w s ps po) (o:Obj):A9 (w.alloc o) s ps po:=h.below ((Below.refl _ _).alloc (Nat.le_refl _) o)
def MadeV (B:Nat) (e:TypeId):Bg:=fun v w=>∃g,v= .slice (some ⟨g,0,none⟩) 0 0/\B<=g/\Blk w g #[] e
theorem MadeV.closed (B:Nat) (e:TypeId):A8 [] (MadeV B e):=fun _ _ _ hr ⟨g,e1,h1,h⟩=>⟨g,e1,h1,h.rex hr (by simp)⟩
def AppV (B:Nat) (e:TypeId) (n k:Nat) (news:List Value):Bg:=fun v w=>∃g cap cur,v= .slice (some ⟨g,0,none⟩) n cap/\B<=g/\Blk w g cur e/\n<=cap/\k<=cur.size/\cur.toList.take k=news
theorem AppV.closed (B:Nat) (e:TypeId) (n k:Nat) (news:List Value):A8 [] (AppV B e n k news):=fun _ _ _ hr ⟨g,c,cur,e1,h1,h,h2,h3,h4⟩=>⟨g,c,cur,e1,h1,h.rex hr (by simp),h2,h3,h4⟩
structure Cu where
 s:A4
 p:Option Addr
 q:Option Addr
 cap:Nat
 vc:Nat
def Fb (r:Cu):Array Value:=C7 r.s r.p r.q r.cap r.vc
def Dt (l:List Cu):List Value:=l.flatMap fun r=>(Fb r).toList
theorem Lw (r:Cu):(Fb r).toList.length=8:=rfl
theorem Qu {α:Type} (f:α->List Value) (K:Nat) (hK:0<K) (hf:∀x,(f x).length=K):∀(l:List α) (j:Nat) (u:Value),(l.flatMap f)[j]? =some u->∃i x k,l[i]? =some x/\k<K/\j=i*K+k/\(f x)[k]? =some u
 | [],j,u,h=>by simp at h
 |x::l,j,u,h=>by
  rw[List.flatMap_cons] at h
  rcases Nat.lt_or_ge j K with hlt|hge
  ·rw[List.getElem?_append_left (by rw[hf];exact hlt)] at h
   exact⟨0,x,j,rfl,hlt,by omega,h⟩
  ·rw[List.getElem?_append_right (by rw[hf];exact hge),hf] at h
   obtain⟨i,y,k,h1,h2,h3,h4⟩:=Qu f K hK hf l (j-K) u h
   exact⟨i+1,y,k,h1,h2,by rw[Nat.add_mul];omega,h4⟩
theorem Qt {α:Type} (f:α->List Value) (K:Nat) (hf:∀x,(f x).length=K):∀(l:List α) (i:Nat) (x:α) (k:Nat) (u:Value),l[i]? =some x->(f x)[k]? =some u->(l.flatMap f)[i*K+k]? =some u
 | [],i,x,k,u,h,_=>by simp at h
 |y::l,i,x,k,u,h,hu=>by
  have hk:k<K:=by have:=(List.getElem?_eq_some_iff.1 hu).1;rw[hf] at this;exact this
  rw[List.flatMap_cons]
  cases i with
  |zero=>
   obtain rfl:y=x:=by simpa using h
   rw[List.getElem?_append_left (by rw[hf];omega)]
   simpa using hu
  |succ i=>
   rw[List.getElem?_append_right (by rw[hf,Nat.add_mul];omega),hf,show (i+1)*K+k-K=i*K+k by rw[Nat.add_mul];omega]
   exact Qt f K hf l i x k u (by simpa using h) hu
def Dj (w:World) (p:Option Addr) (l:List Cu):Prop:=∀(i:Nat) (r:Cu),l[i]? =some r->∃b o,p=some ⟨b,o,none⟩/\(∀j v,(Fb r)[j]? =some v->w.cell? ⟨b,o+i*8+j,none⟩=some v)/\Yz w r.s r.p r.q r.cap r.vc
theorem Yz.below {w w':World} {s:A4} {p q:Option Addr} {cap vc:Nat} (h:Yz w s p q cap vc) (hb:Below w.heap.size w w'):Yz w' s p q cap vc:=⟨h.runs.below hb,h.raw.below hb,h.nilR,h.nilV,h.capR,h.capV,h.maxR,h.maxV⟩
theorem Dj.below {w w':World} {p:Option Addr} {l:List Cu} (h:Dj w p l) (hb:Below w.heap.size w w'):Dj w' p l:=fun i r hr=>by
 obtain⟨b,o,e,h1,h2⟩:=h i r hr
 exact⟨b,o,e,fun j v hv=>(hb.cell (p:=⟨b,_,none⟩) (Br (h1 j v hv))).trans (h1 j v hv),h2.below hb⟩
theorem Dj.take {w:World} {p:Option Addr} {l:List Cu} (h:Dj w p l) (k:Nat):Dj w p (l.take k):=fun i r hr=>h i r (by
 rw[List.getElem?_take] at hr
 split at hr
 ·exact hr
 ·cases hr)
theorem Dj.flat {w:World} {p:Option Addr} {l:List Cu} (h:Dj w p l) (a:Addr) (ha:p=some a) (j:Nat) (u:Value) (hu:(Dt l)[j]? =some u):w.cell? (a.add j)=some u:=by
 obtain⟨i,r,k,h1,h2,rfl,h3⟩:=Qu _ 8 (by omega) Lw l j u hu
 obtain⟨b,o,e,h4,_⟩:=h i r h1
 rw[ha] at e
 injection e with e
 subst e
 have:=h4 k u (by simpa using h3)
 rw[show (⟨b,o,none⟩:Addr).add (i*8+k)=⟨b,o+i*8+k,none⟩ by unfold Addr.add;split<;>simp_all<;>omega]
 exact this
def Fw (cur:Array Value) (l:List Cu):Prop:=∀(i:Nat) (r:Cu),l[i]? =some r->∀k v,(Fb r)[k]? =some v->cur[i*8+k]? =some v
theorem R5 {cur:Array Value} {l:List Cu} {n:Nat} (h:cur.toList.take (n*8)=Dt l) (hn:l.length=n):Fw cur l:=fun i r hr k v hv=>by
 have:=Qt _ 8 Lw l i r k v hr (by simpa using hv)
 unfold Dt at h
 rw[<-h,List.getElem?_take] at this
 split at this
 ·simpa using this
 ·cases this
theorem Fw.set {cur:Array Value} {l:List Cu} (h:Fw cur l) {i k:Nat} {r r':Cu} (hr:l[i]? =some r) (hk:k<8) {v:Value} (he:Fb r'=(Fb r).setIfInBounds k v):Fw (cur.setIfInBounds (i*8+k) v) (l.set i r'):=fun i2 r2 hr2 k2 v2 hv2=>by
 have hk2:k2<8:=by have:=(Array.getElem?_eq_some_iff.1 hv2).1;rw[show (Fb r2).size=8 from rfl] at this;exact this
 rw[List.getElem?_set] at hr2
 split at hr2
 ·rename_i e
  subst e
  split at hr2
  ·injection hr2 with hr2
   subst hr2
   rw[he,Array.getElem?_setIfInBounds] at hv2
   split at hv2
   ·rename_i ek
    subst ek
    split at hv2
    ·have hb:i*8+k<cur.size:=by
      have h0:=h i r hr k ((Fb r)[k]'(by rw[show (Fb r).size=8 from rfl];exact hk)) (Array.getElem?_eq_getElem _)
      exact(Array.getElem?_eq_some_iff.1 h0).1
     rw[Array.getElem?_setIfInBounds,if_pos rfl,if_pos hb]
     exact hv2
    ·cases hv2
   ·rename_i ek
    rw[Array.getElem?_setIfInBounds,if_neg (by omega)]
    exact h i r hr k2 v2 hv2
  ·cases hr2
 ·rename_i e
  rw[Array.getElem?_setIfInBounds,if_neg (by omega)]
  exact h i2 r2 hr2 k2 v2 hv2
def M9 (er n x y m0 m1 m2 m3 m4:Int):Array Value:= #[er,n,x,y,m0,m1,m2,m3,m4]
theorem q1_w (nm:ByteArray) (ep fl la sc:Int) (ps po:Option Addr) (ns cs no co:Nat) (a b:Int) (n er:Int) (w:World)
  (c1:∀W,Below w.heap.size w W->Cb 13 #[.agg #[.string nm,ep,fl,la,sc,.slice ps ns cs,.slice po no co],a,b] W (.tuple #[n,er])):
  Cb 140 #[.agg #[.string nm,ep,fl,la,sc,.slice ps ns cs,.slice po no co],a,b] w (.agg #[er,n,.int .i64 0,.int .i64 0,.int .i64 0,.int .i64 0,.int .i64 0,.int .i64 0,.int .i64 0]):=by
 have H_c1:=Hd c1
 clear c1
 go_enter Tryz.func140,Tryz.ntmps140
 go_wp2_with fail
 refine(H_c1.out _ Aa).mono ?_
 rintro e w1 ⟨rfl,hb1⟩
 have z2:=hb1.size
 try simp at z2
 refine Ad w w1 (Bc w.heap.size #[.string nm,ep,fl,la,sc,.slice ps ns cs,.slice po no co] 25<|Bc (w.heap.size+1) #[.int .i64 0,.int .i64 0,.int .i64 0,.int .i64 0,.int .i64 0,.int .i64 0,.int .i64 0,.int .i64 0,.int .i64 0] 67<|Bz) ?_
 rintro hW z3 ⟨⟨b1,yb1,k1,f1⟩,⟨b2,yb2,k2,f2⟩,-⟩
 clear hb1
 go_wp2
 refine bodyPost_ret (by simp[results,Tryz.results140,go_sem,k1,f1,k2,f2,yb1,yb2]) rfl ⟨rfl,by exact Aa⟩
theorem q2_w (nm:ByteArray) (ep fl la sc:Int) (ps po:Option Addr) (ns cs no co:Nat) (a b:Int) (m0 m1 m2 m3 m4 er:Int) (w:World)
  (c1:∀W,Below w.heap.size w W->Cb 20 #[.agg #[.string nm,ep,fl,la,sc,.slice ps ns cs,.slice po no co],a,b] W (.tuple #[.agg #[m0,m1,m2,m3,m4],er])):
  Cb 142 #[.agg #[.string nm,ep,fl,la,sc,.slice ps ns cs,.slice po no co],a,b] w (.agg #[er,.int .i64 0,.int .i64 0,.int .i64 0,m0,m1,m2,m3,m4]):=by
 have H_c1:=Hd c1
 clear c1
 go_enter Tryz.func142,Tryz.ntmps142
 go_wp2_with fail
 refine(H_c1.out _ Aa).mono ?_
 rintro e w1 ⟨rfl,hb1⟩
 have z2:=hb1.size
 try simp at z2
 refine Ad w w1 (Bc w.heap.size #[.string nm,ep,fl,la,sc,.slice ps ns cs,.slice po no co] 25<|Bc (w.heap.size+1) #[.int .i64 0,.int .i64 0,.int .i64 0,.int .i64 0,.int .i64 0,.int .i64 0,.int .i64 0,.int .i64 0,.int .i64 0] 67<|Bz) ?_
 rintro hW z3 ⟨⟨b1,yb1,k1,f1⟩,⟨b2,yb2,k2,f2⟩,-⟩
 clear hb1
 go_wp2
 refine bodyPost_ret (by simp[results,Tryz.results142,go_sem,k1,f1,k2,f2,yb1,yb2]) rfl ⟨rfl,by exact Aa⟩
theorem P7 (nm:ByteArray) (ep fl la sc:Int) (ps po:Option Addr) (ns cs no co:Nat) (a b:Int) (g:Nat) (x y er:Int) (w:World) (b1:Blk w g #[.func (.func 17) #[] #[]] 45)
  (c1:∀W,Below w.heap.size w W->Cb 17 #[.agg #[.string nm,ep,fl,la,sc,.slice ps ns cs,.slice po no co],a,b] W (.tuple #[.agg #[x,y],er])):
  Cb 176 #[.agg #[.string nm,ep,fl,la,sc,.slice ps ns cs,.slice po no co],a,b,.pointer (some ⟨g,0,none⟩)] w (.agg #[er,.int .i64 0,x,y,.int .i64 0,.int .i64 0,.int .i64 0,.int .i64 0,.int .i64 0]):=by
 have y1:=b1.lt
 have H_c1:=Hd c1
 clear c1
 go_enter Tryz.func176,Tryz.ntmps176
 have k1:=b1.cell
 have f1:=b1.frozen
 go_wp2_with fail
 refine(H_c1.out _ Aa).mono ?_
 rintro e w1 ⟨rfl,hb1⟩
 have z2:=hb1.size
 try simp at z2
 clear k1 f1
 refine Ad w w1 (Bc g #[.func (.func 17) #[] #[]] 45<|Bc w.heap.size #[.string nm,ep,fl,la,sc,.slice ps ns cs,.slice po no co] 25<|Bc (w.heap.size+1) #[.int .i64 0,.int .i64 0,.int .i64 0,.int .i64 0,.int .i64 0,.int .i64 0,.int .i64 0,.int .i64 0,.int .i64 0] 67<|Bz) ?_
 clear b1
 rintro hW z3 ⟨⟨b1,yb1,k1,f1⟩,⟨b2,yb2,k2,f2⟩,⟨b3,yb3,k3,f3⟩,-⟩
 clear hb1
 go_wp2
 refine bodyPost_ret (by simp[results,Tryz.results176,go_sem,k1,f1,k2,f2,k3,f3,yb1,yb2,yb3]) rfl ⟨rfl,by exact Aa⟩
theorem R3 (nm:ByteArray) (ep fl la sc:Int) (ps po:Option Addr) (ns cs no co:Nat) (a b:Int) (g:Nat) (x y er:Int) (w:World) (b1:Blk w g #[.func (.func 18) #[] #[]] 45)
  (c1:∀W,Below w.heap.size w W->Cb 18 #[.agg #[.string nm,ep,fl,la,sc,.slice ps ns cs,.slice po no co],a,b] W (.tuple #[.agg #[x,y],er])):
  Cb 176 #[.agg #[.string nm,ep,fl,la,sc,.slice ps ns cs,.slice po no co],a,b,.pointer (some ⟨g,0,none⟩)] w (.agg #[er,.int .i64 0,x,y,.int .i64 0,.int .i64 0,.int .i64 0,.int .i64 0,.int .i64 0]):=by
 have y1:=b1.lt
 have H_c1:=Hd c1
 clear c1
 go_enter Tryz.func176,Tryz.ntmps176
 have k1:=b1.cell
 have f1:=b1.frozen
 go_wp2_with fail
 refine(H_c1.out _ Aa).mono ?_
 rintro e w1 ⟨rfl,hb1⟩
 have z2:=hb1.size
 try simp at z2
 clear k1 f1
 refine Ad w w1 (Bc g #[.func (.func 18) #[] #[]] 45<|Bc w.heap.size #[.string nm,ep,fl,la,sc,.slice ps ns cs,.slice po no co] 25<|Bc (w.heap.size+1) #[.int .i64 0,.int .i64 0,.int .i64 0,.int .i64 0,.int .i64 0,.int .i64 0,.int .i64 0,.int .i64 0,.int .i64 0] 67<|Bz) ?_
 clear b1
 rintro hW z3 ⟨⟨b1,yb1,k1,f1⟩,⟨b2,yb2,k2,f2⟩,⟨b3,yb3,k3,f3⟩,-⟩
 clear hb1
 go_wp2
 refine bodyPost_ret (by simp[results,Tryz.results176,go_sem,k1,f1,k2,f2,k3,f3,yb1,yb2,yb3]) rfl ⟨rfl,by exact Aa⟩
theorem T2 (nm:ByteArray) (ep fl la sc:Int) (ps po:Option Addr) (ns cs no co:Nat) (a b:Int) (g:Nat) (x y er:Int) (w:World) (b1:Blk w g #[.func (.func 19) #[] #[]] 45)
  (c1:∀W,Below w.heap.size w W->Cb 19 #[.agg #[.string nm,ep,fl,la,sc,.slice ps ns cs,.slice po no co],a,b] W (.tuple #[.agg #[x,y],er])):
  Cb 176 #[.agg #[.string nm,ep,fl,la,sc,.slice ps ns cs,.slice po no co],a,b,.pointer (some ⟨g,0,none⟩)] w (.agg #[er,.int .i64 0,x,y,.int .i64 0,.int .i64 0,.int .i64 0,.int .i64 0,.int .i64 0]):=by
 have y1:=b1.lt
 have H_c1:=Hd c1
 clear c1
 go_enter Tryz.func176,Tryz.ntmps176
 have k1:=b1.cell
 have f1:=b1.frozen
 go_wp2_with fail
 refine(H_c1.out _ Aa).mono ?_
 rintro e w1 ⟨rfl,hb1⟩
 have z2:=hb1.size
 try simp at z2
 clear k1 f1
 refine Ad w w1 (Bc g #[.func (.func 19) #[] #[]] 45<|Bc w.heap.size #[.string nm,ep,fl,la,sc,.slice ps ns cs,.slice po no co] 25<|Bc (w.heap.size+1) #[.int .i64 0,.int .i64 0,.int .i64 0,.int .i64 0,.int .i64 0,.int .i64 0,.int .i64 0,.int .i64 0,.int .i64 0] 67<|Bz) ?_
 clear b1
 rintro hW z3 ⟨⟨b1,yb1,k1,f1⟩,⟨b2,yb2,k2,f2⟩,⟨b3,yb3,k3,f3⟩,-⟩
 clear hb1
 go_wp2
 refine bodyPost_ret (by simp[results,Tryz.results176,go_sem,k1,f1,k2,f2,k3,f3,yb1,yb2,yb3]) rfl ⟨rfl,by exact Aa⟩
theorem Q9 (fn:FuncId) (w:World):
  Calls Tryz.prog 141 #[.func (.func fn) #[] #[]] w fun e w'=>e= .returned (.agg #[.func (.func 176) #[] #[.pointer (some ⟨w.heap.size,0,none⟩)]])/\Below w.heap.size w w'/\Blk w' w.heap.size #[.func (.func fn) #[] #[]] 45:=by
 have hmf:∀(fn:Fn) (first cap:Array Value) (w:World),(Instr.makeFunc fn first cap).run Tryz.prog w= .ok (.func fn first cap) w:=fun _ _ _ _=>rfl
 go_enter Tryz.func141,Tryz.ntmps141
 go_wp2
 refine bodyPost_ret (v:= .agg #[.func (.func 176) #[] #[.pointer (some ⟨w.heap.size,0,none⟩)]]) (by simp[results,Tryz.results141,go_sem]) rfl ⟨rfl,Aa,Ab⟩
def QsV (g2 g3 g4:Nat):Array Value:= #[.nilFunc,.func (.func 140) #[] #[],.func (.func 176) #[] #[.pointer (some ⟨g2,0,none⟩)],.func (.func 176) #[] #[.pointer (some ⟨g3,0,none⟩)],.func (.func 176) #[] #[.pointer (some ⟨g4,0,none⟩)],.func (.func 142) #[] #[]]
def sl (l:List (Int×Int)):Int:=if inI (Ak (loL l))&&inI (Ak (hiL l)) then Ak (loL l) else 0
def sh (l:List (Int×Int)):Int:=if inI (Ak (loL l))&&inI (Ak (hiL l)) then Ak (hiL l) else 0
theorem sumV_is (l:List (Int×Int)):sumV l= #[.int .i64 (sl l),.int .i64 (sh l)]:=by
 unfold sumV sl sh
 cases inI (Ak (loL l))&&inI (Ak (hiL l))<;>rfl
def O4 (s:A3) (k:Nat) (a b:Int):Array Value:=
 if k=1 then M9 (if Cg s a b=9 then 0 else Cg s a b) (At s a b).length 0 0 0 0 0 0 0
 else if k=2 then M9 (Cg s a b) 0 (Aw (loL (At s a b))) (Aw (hiL (At s a b))) 0 0 0 0 0
 else if k=3 then M9 (Cg s a b) 0 (Ay (loL (At s a b))) (Ay (hiL (At s a b))) 0 0 0 0 0
 else if k=4 then M9 (R2 (At s a b) (Cg s a b)) 0 (sl (At s a b)) (sh (At s a b)) 0 0 0 0 0
 else M9 (Cg s a b) 0 0 0 (At s a b).length (Ak (loL (At s a b))/(At s a b).length) (Ak (loL (At s a b))%(At s a b).length) (Ak (hiL (At s a b))/(At s a b).length) (Ak (hiL (At s a b))%(At s a b).length)
def Mf (k:Nat):Bg:=fun v w=>
 (k=1/\v= .func (.func 140) #[] #[])∨(∃g fn,((k=2/\fn=17)∨(k=3/\fn=18)∨(k=4/\fn=19))/\v= .func (.func 176) #[] #[.pointer (some ⟨g,0,none⟩)]/\Blk w g #[.func (.func fn) #[] #[]] 45)∨(k=5/\v= .func (.func 142) #[] #[])
theorem Mf.closed (k:Nat):A8 [] (Mf k):=fun _ _ _ hr h=>by
 rcases h with h|⟨g,fn,h1,h2,h3⟩|h
 ·exact .inl h
 ·exact .inr (.inl ⟨g,fn,h1,h2,h3.rex hr (by simp)⟩)
 ·exact .inr (.inr h)
theorem Mf.below {k:Nat} {v:Value} {w w':World} (h:Mf k v w) (hb:Below w.heap.size w w'):Mf k v w':=by
 rcases h with h|⟨g,fn,h1,h2,h3⟩|h
 ·exact .inl h
 ·exact .inr (.inl ⟨g,fn,h1,h2,h3.below hb⟩)
 ·exact .inr (.inr h)
theorem Ti {k:Nat} {v:Value} {w:World} (h:Mf k v w) (s:A3) (ps po:Option Addr) (cs co:Nat) (a b:Int) (hin:A9 w s ps po) (hb: -9223372036854775808<=b):
  ∃f cap,v= .func (.func f) #[] cap/\(∀A W,(callFunc f A).run Tryz.prog W= .ok (.enter f A) W)/\Calls Tryz.prog f (#[.agg (Cd s ps cs po co),.int .i64 a,.int .i64 b]++cap) w fun e w'=>e= .returned (.agg (O4 s k a b))/\Below w.heap.size w w':=by
 rcases h with⟨rfl,rfl⟩|⟨g,fn,h1,rfl,h3⟩|⟨rfl,rfl⟩
 ·refine⟨_,_,rfl,fun A W=>by kernel_rfl,?_⟩
  have c1:=fun W (hW:Below w.heap.size w W)=>Yj s ps po cs co a b W (hin.below hW) hb
  unfold Cd at c1
  exact q1_w _ _ _ _ _ _ _ _ _ _ _ a b _ _ w c1
 ·refine⟨_,_,rfl,fun A W=>by kernel_rfl,?_⟩
  rcases h1 with⟨rfl,rfl⟩|⟨rfl,rfl⟩|⟨rfl,rfl⟩
  ·have c1:=fun W (hW:Below w.heap.size w W)=>Yi s ps po cs co a b W (hin.below hW) hb
   unfold Cd minA at c1
   exact P7 _ _ _ _ _ _ _ _ _ _ _ a b g _ _ _ w h3 c1
  ·have c1:=fun W (hW:Below w.heap.size w W)=>c_anMost s ps po cs co a b W (hin.below hW) hb
   unfold Cd maxA at c1
   exact R3 _ _ _ _ _ _ _ _ _ _ _ a b g _ _ _ w h3 c1
  ·have c1:=fun W (hW:Below w.heap.size w W)=>c_anSum s ps po cs co a b W (hin.below hW) hb
   rw[sumV_is] at c1
   unfold Cd at c1
   exact T2 _ _ _ _ _ _ _ _ _ _ _ a b g _ _ _ w h3 c1
 ·refine⟨_,_,rfl,fun A W=>by kernel_rfl,?_⟩
  have c1:=fun W (hW:Below w.heap.size w W)=>c_anMean s ps po cs co a b W (hin.below hW) hb
  unfold Cd Sk at c1
  exact q2_w _ _ _ _ _ _ _ _ _ _ _ a b _ _ _ _ _ _ w c1
def QsF:Bg:=fun v w=>∃g2 g3 g4,v= .agg (QsV g2 g3 g4)/\Blk w g2 #[.func (.func 17) #[] #[]] 45/\Blk w g3 #[.func (.func 18) #[] #[]] 45/\Blk w g4 #[.func (.func 19) #[] #[]] 45
theorem QsF.closed :A8 [] QsF:=fun _ _ _ hr ⟨g2,g3,g4,e,h2,h3,h4⟩=>⟨g2,g3,g4,e,h2.rex hr (by simp),h3.rex hr (by simp),h4.rex hr (by simp)⟩
theorem H8 (w:World) (o:Obj):(w.alloc o).heap.size=w.heap.size+1:=by simp
theorem M0 (w:World):
  Calls Tryz.prog 81 #[] w fun e w'=>∃v,e= .returned v/\QsF v w'/\Below w.heap.size w w':=by
 have s1:=Hd (fun W=>Q9 17 W)
 have s2:=Hd (fun W=>Q9 18 W)
 have s3:=Hd (fun W=>Q9 19 W)
 go_enter Tryz.func81,Tryz.ntmps81
 go_wp2_with fail
 refine(s1.out _).mono ?_
 rintro e w1 ⟨rfl,hb1,hs⟩
 have z2:=hb1.size
 try simp at z2
 refine Ad w w1 (Bc w.heap.size #[.nilFunc,.nilFunc,.nilFunc,.nilFunc,.nilFunc,.nilFunc] 151<|Bz) ?_
 rintro hW z3 ⟨⟨b1,yb1,k1,f1⟩,-⟩
 have b2:Blk w1 (w.heap.size+1) #[.func (.func 17) #[] #[]] 45:=by first|exact hs|(simp only[H8] at hs;exact hs)
 clear hs
 have z4:=b2.lt
 have k2:=b2.cell
 have f2:=b2.frozen
 go_wp2_with fail
 refine(s2.out _).mono ?_
 rintro e w5 ⟨rfl,hb5,hs⟩
 have z6:=hb5.size
 try simp at z6
 clear k1 f1 k2 f2
 refine Ad w w5 (Bc w.heap.size #[.nilFunc,.nilFunc,.nilFunc,.nilFunc,.nilFunc,.nilFunc] 151<|Bc (w.heap.size+1) #[.func (.func 17) #[] #[]] 45<|Bz) ?_
 clear b1 b2 hW
 rintro hW z7 ⟨⟨b1,yb1,k1,f1⟩,⟨b2,yb2,k2,f2⟩,-⟩
 have b3:Blk w5 w1.heap.size #[.func (.func 18) #[] #[]] 45:=by first|exact hs|(simp only[H8] at hs;exact hs)
 clear hs
 have z8:=b3.lt
 have k3:=b3.cell
 have f3:=b3.frozen
 go_wp2_with fail
 refine(s3.out _).mono ?_
 rintro e w9 ⟨rfl,hb9,hs⟩
 have z10:=hb9.size
 try simp at z10
 clear k1 f1 k2 f2 k3 f3
 refine Ad w w9 (Bc w.heap.size #[.nilFunc,.nilFunc,.nilFunc,.nilFunc,.nilFunc,.nilFunc] 151<|Bc (w.heap.size+1) #[.func (.func 17) #[] #[]] 45<|Bc w1.heap.size #[.func (.func 18) #[] #[]] 45<|Bz) ?_
 clear b1 b2 b3 hW
 rintro hW z11 ⟨⟨b1,yb1,k1,f1⟩,⟨b2,yb2,k2,f2⟩,⟨b3,yb3,k3,f3⟩,-⟩
 have b4:Blk w9 w5.heap.size #[.func (.func 19) #[] #[]] 45:=by first|exact hs|(simp only[H8] at hs;exact hs)
 clear hs
 have z12:=b4.lt
 have k4:=b4.cell
 have f4:=b4.frozen
 go_wp2
 have y_1:=b1.lt
 have y_2:=b2.lt
 have y_3:=b3.lt
 have y_4:=b4.lt
 refine bodyPost_ret (v:= .agg (QsV (w.heap.size+1) w1.heap.size w5.heap.size)) (by simp[results,Tryz.results81,go_sem,QsV,k1,f1,k2,f2,k3,f3,k4,f4,y_1,y_2,y_3,y_4]) rfl ⟨_,rfl,⟨_,_,_,rfl,by exact Ab,by exact Ab,by exact Ab⟩,by exact Aa⟩
def IntsF (w:World) (p:Option Addr) (l:List Int):Prop:=Au w p l
theorem IntsF.rex {L:List Nat} {w w':World} {p:Option Addr} {l:List Int} (h:IntsF w p l) (hr:Rex L w w') (hL:L= []):IntsF w' p l:=by subst hL;exact Au.below h hr.below
def enRel (w:World) (p:Option Addr) (l:List Int) (cap:Nat) (x0:Int) (a':Act) (W:World):Prop:=
 Below w.heap.size w W/\∃i:Nat,(∃u:Nat->Value,a'= {tmps:= #[.slice p l.length cap,u 1,u 2,u 3,.int .i64 (Aw (x0::l.take i)),.int .i64 (Ay (x0::l.take i)),.int .i64 (i:Int),u 7,u 8,u 9,u 10,u 11,u 12,u 13,u 14,u 15,u 16,u 17,u 18,u 19,u 20,u 21,u 22,u 23,u 24,u 25,u 26,u 27,u 28,u 29,u 30,u 31,u 32,u 33,u 34,u 35,u 36,u 37,u 38,u 39,u 40],defers:= []})/\i<=l.length
def OV (B:Nat) (T:List Int):Bg:=fun v w=>Ca w B 2 1 v T.length (T.map (Value.int .i64))
theorem OV.closed (B:Nat) (T:List Int):A8 [] (OV B T):=fun _ _ _ hr h=>Ca.rex h hr rfl
def kindR (R n:Int):Int:=if n=0 then 1 else if R=0 then 2 else 3
def PtsDom (s:A4):Prop:=(s.K=4/\(s.raw.length:Int)=cnt s.runs)∨(s.K≠4/\Fg s.A s.R s.n s.d=true)
def toRel (w:World) (gs:Nat) (p:Option Addr) (cap:Nat) (l:List Int) (a':Act) (W:World):Prop:=
 Below w.heap.size w W/\∃(i:Nat) (S:Int) (ps:Option Addr) (ls cs:Nat),(∃u:Nat->Value,a'= {tmps:= #[.slice p l.length cap,u 1,.pointer (some ⟨w.heap.size,0,none⟩),.pointer (some ⟨gs,0,none⟩),.int .i64 (i:Int),u 5,u 6,u 7,u 8,u 9,u 10,u 11,u 12,u 13,u 14,u 15,u 16,u 17,u 18,u 19],defers:= []})/\S=Ak (l.take i)/\i<=l.length/\Blk W w.heap.size #[.bool false,.slice none 0 0] 132/\Blk W gs #[.bool (decide (S<0)),.slice ps ls cs] 132/\Fh W (.slice ps ls cs) S.natAbs
section
variable {P:Program} {w:World}
theorem M4 (base:Nat) (t ty e:TypeId) (i:TypeInfo) (z:Value) (size bytes:Nat) (ht:P.underlying t=some (.slice e)) (hi:P.info? e=some i) (hz:i.zero=some z)
  (hsize:i.size=size) (hby:i.bytes=bytes) (hzs:z.cells.size=size) (hsz:0<size)
  (v:Value) (n:Nat) (xs:List Value) (hown:w.ownsRow base e size v n xs)
  (a:Addr) (m c:Nat) (news:List Value) (hl:news.length=m*size) (hnews:∀j u,news[j]? =some u->w.cell? (a.add j)=some u) (h1:∀u∈news,u.oneCell'=true)
  (h63:n+m<=maxLen) (hbytes:(n+m)*bytes<=140737488355328) (hbase:base<=w.heap.size):
  ∃v' w',(Builtin.append_ #[t,t] ty #[v,.slice (some a) m c]).run P w= .ok v' w'/\w'.ownsRow base e size v' (n+m) (xs++news)/\w.grownBy w' v.ownBlock/\
   (v'= .slice none 0 0↔v= .slice none 0 0/\m=0)/\(v'.ownBlock=v.ownBlock∨v'.ownBlock=some w.heap.size):=by
 obtain⟨v',w',hr,h2,h3,h4⟩:=run_append_own (P:=P) w base t ty e i z size bytes ht hi hz hsize hby hzs hsz v n xs hown a m c news hl hnews h1 h63 hbytes hbase
 refine⟨v',w',hr,h2,h3,h4,?_⟩
 subst hsize
 subst hby
 have hsmall:n+m<=9223372036854775807:=by simp only[maxLen] at h63;omega
 rcases hown.2 with⟨rfl,rfl⟩|⟨g,cap,cur,rfl,hbg,hg,hnc,hcm,hcs,htake⟩
 ·by_cases hm:m=0
  ·left
   rw[h4.2 ⟨rfl,hm⟩]
  ·have hr2:=run_append_nil (P:=P) w t ty e i z ht hi hz a m c news hl hnews (by omega) (by omega) (by have hb:=hbytes;simp only[Nat.zero_add] at hb;omega)
   rw[hr2] at hr
   injection hr with hr _
   subst hr
   right;rfl
 ·by_cases hroom:n+m<=cap
  ·have hfit:n*i.size+news.length<=cur.size:=by rw[hl,hcs,<-Nat.add_mul];exact Nat.mul_le_mul_right _ hroom
   have hr2:=run_append_room (P:=P) w t ty e i ht hi g n cap cur hg a m c news hl hnews h1 hroom hfit
   rw[hr2] at hr
   injection hr with hr _
   subst hr
   left;rfl
  ·have holds:∀j u,xs[j]? =some u->w.cell? ((⟨g,0,none⟩:Addr).add j)=some u:=hown.cells (g:=g) rfl
   have hr2:=run_append_grow (P:=P) w t ty e i z ht hi hz ⟨g,0,none⟩ n cap xs hown.1 holds a m c news hl hnews (by omega) (by omega) (growslice_fits (by omega) hbytes)
   rw[hr2] at hr
   injection hr with hr _
   subst hr
   right;rfl
theorem Kh {ops:Array Oper} {rest:List Oper} {o:Oper} {a:Act} {Q:Exit->Act->World->Prop} (hgd:o.guard=none) (s x:Operand) (t:TypeId)
  (ho:o.op= .call {callee:= .builtin .append,args:= #[s,x],argTypes:= #[t,t]})
  (base:Nat) (e:TypeId) (i:TypeInfo) (z:Value) (size bytes:Nat) (ht:P.underlying t=some (.slice e)) (hi:P.info? e=some i) (hz:i.zero=some z)
  (hsize:i.size=size) (hby:i.bytes=bytes) (hzs:z.cells.size=size) (hsz:0<size)
  (v:Value) (n:Nat) (xs:List Value) (hs:a.eval s=v) (hown:w.ownsRow base e size v n xs)
  (ad:Addr) (m c:Nat) (news:List Value) (hx:a.eval x= .slice (some ad) m c) (hl:news.length=m*size) (hnews:∀j u,news[j]? =some u->w.cell? (ad.add j)=some u) (h1:∀u∈news,u.oneCell'=true)
  (h63:n+m<=maxLen) (hbytes:(n+m)*bytes<=140737488355328) (hbase:base<=w.heap.size)
  (h:∀v' w',w'.ownsRow base e size v' (n+m) (xs++news)->w.grownBy w' v.ownBlock->(v'.ownBlock=v.ownBlock∨v'.ownBlock=some w.heap.size)->wpList P ops Q rest (a.put o.dst v') w'):wpList P ops Q (o::rest) a w:=by
 refine wpList_plain hgd fun K hK=> ?_
 obtain⟨v',w',hr,h2,h3,_,h4⟩:=M4 (P:=P) (w:=w) base t o.type e i z size bytes ht hi hz hsize hby hzs hsz v n xs hown ad m c news hl hnews h1 h63 hbytes hbase
 unfold Oper.wp
 simp[execOp,ho,resolve,invoke,builtin,hs,hx,hr,Result.andThen]
 exact hK _ _ (h v' w' h2 h3 h4)
end
def OneV (B:Nat) (d:Int):Bg:=fun v w=>∃g,v= .slice (some ⟨g,0,none⟩) 1 1/\B<=g/\Blk w g #[d] 2
theorem OneV.closed (B:Nat) (d:Int):A8 [] (OneV B d):=fun _ _ _ hr ⟨g,e1,h1,h⟩=>⟨g,e1,h1,h.rex hr (by simp)⟩
def Rp (v1 v2:Value):Prop:=∀g,v1.ownBlock=some g->v2.ownBlock=some g->False
theorem Rp.symm {v1 v2:Value} (h:Rp v1 v2):Rp v2 v1:=fun g a b=>h g b a
theorem Mt {B:Nat} {w0 w w':World} {r:Option Nat} (h:Below B w0 w) (hB:B<=w.heap.size) (hg:w.grownBy w' r) (hr:∀g,r=some g->B<=g):Below B w0 w':=
 h.trans ⟨hg.os,hg.tape,hg.output,hg.size,fun k hk=>hg.block k (by omega) fun e=>by have:=hr k e.symm;omega⟩
theorem Zy {W:World} {g:Nat} {d:Int} (h:Blk W g #[d] 2) {j:Nat} {u:Value} (hu: [Value.int .i64 d][j]? =some u):W.cell? ((⟨g,0,none⟩:Addr).add j)=some u:=by
 match j,hu with
 |0,hu=>
  obtain rfl:Value.int .i64 d=u:=by simpa using hu
  exact h.cell 0
 |j+1,hu=>simp at hu
def loB (x:Af):Int:=x.s-x.c
def hiB (x:Af):Int:=x.s+x.c
def boRel (w:World) (p:Option Addr) (cap:Nat) (l:List Af) (a':Act) (W:World):Prop:=
 Below w.heap.size w W/\∃(i:Nat) (v1 v2:Value),(∃u:Nat->Value,a'= {tmps:= #[.slice p l.length cap,u 1,.slice none 0 0,.slice none 0 0,v1,v2,.int .i64 (i:Int),u 7,u 8,u 9,u 10,u 11,u 12,u 13,u 14,u 15,u 16,u 17,u 18,u 19,u 20,u 21,u 22,u 23,u 24,u 25,u 26,u 27,u 28,u 29,u 30,u 31,u 32,u 33,u 34,u 35,u 36,u 37,u 38,u 39,u 40,u 41,u 42],defers:= []})/\i<=l.length/\
  Ca W w.heap.size 2 1 v1 i (((l.take i).map loB).map (Value.int .i64))/\Ca W w.heap.size 2 1 v2 i (((l.take i).map hiB).map (Value.int .i64))/\Rp v1 v2
end Go.Proofs.YtidfcoooccblaaaGreat
