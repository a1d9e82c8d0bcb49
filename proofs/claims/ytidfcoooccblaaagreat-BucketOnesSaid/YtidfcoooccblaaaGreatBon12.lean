/- Parts of the proof that follows. No condition. -/
import Derived.Test.YtidfcoooccblaaaGreatBon11
set_option maxRecDepth 100000
set_option maxHeartbeats 8000000
set_option linter.unusedSimpArgs false
set_option linter.unusedVariables false
namespace Go.Proofs.YtidfcoooccblaaaGreat
open Go.RowKit
attribute [local simp] Oper.looksAt Op.operands Call.operands Aj Det Ao
theorem Jf {A R n d:Int} {w:World}:((if A=0 then (if R=0 then (if n=0 then (if d=0 then Result.ok (Go.Next.value (Value.bool false)) w else Result.ok (Go.Next.value (Value.bool true)) w) else Result.ok (Go.Next.value (Value.bool true)) w) else Result.ok (Go.Next.value (Value.bool true)) w) else Result.ok (Go.Next.value (Value.bool true)) w):Result Go.Next)=Result.ok (Go.Next.value (Value.bool (!(Kg A R n d)))) w:=by
 unfold Kg
 by_cases h1:A=0<;>by_cases h2:R=0<;>by_cases h3:n=0<;>by_cases h4:d=0<;>simp[h1,h2,h3,h4]
theorem nd_on {P:Program} {ops:Array Oper} {C:World->Prop} {X:List (Nat×Nat)} {a0:Act} {Fin:List (Option Tmp×Bo)->Prop} {i:Nat} {o:Oper} {rest:List Oper} {acc:List (Option Tmp×Bo)}
  (Φ:Bo) (want:Bool) (k:Nat) (d:Tmp) (hcl:Bj (Bl X i) Φ) (hg:o.guard=some (k,want)) (hd:Cf ops k=some d) (hx:∀v w,Aj a0 acc d v w->v= .bool want)
  (h:∀(a:Act) (w:World),C w->(∀s∈o.looksAt ops,Aj a0 acc s (a.tmps.getD s undef) w)->Ky P o (Fh X i) Φ w ((execOp a.eval o).run P w))
  (hr:Aq P ops C X a0 Fin (i+1) rest ((o.dst,Φ)::acc)):Aq P ops C X a0 Fin i (o::rest) acc:=by
 refine⟨Φ,hcl,fun a w hC hE=> ?_,hr⟩
 have hin:d∈o.looksAt ops:=by
  unfold Cf at hd
  simp[Oper.looksAt,hg,hd]
 have hv:=hx _ _ (hE d hin)
 have hw:=Ko (o:=o) hg hd hv
 refine⟨fun _=>h a w hC hE,fun e=> ?_⟩
 rw[hw] at e
 simp at e
theorem G8 {P:Program} {ops:Array Oper} {C:World->Prop} {X:List (Nat×Nat)} {a0:Act} {Fin:List (Option Tmp×Bo)->Prop} {i:Nat} {o:Oper} {rest:List Oper} {acc:List (Option Tmp×Bo)}
  (Φ:Bo) {want:Bool} {k:Nat} {d:Tmp} (hcl:Bj (Bl X i) Φ) (hg:o.guard=some (k,want)) (hd:Cf ops k=some d) (hal:Az o=false) (hx:∀v w,Aj a0 acc d v w->v= .bool want)
  (h:∀(a:Act) (w:World),C w->(∀s∈o.looksAt ops,Aj a0 acc s (a.tmps.getD s undef) w)->∃f args,(execOp a.eval o).run P w= .ok (.enter f args) w/\Calls P f args w fun e w'=>∃u,e= .returned u/\Below w.heap.size w w'/\Φ u w')
  (hr:Aq P ops C X a0 Fin (i+1) rest ((o.dst,Φ)::acc)):Aq P ops C X a0 Fin i (o::rest) acc:=
 nd_on Φ want k d hcl hg hd hx (fun a w hC hE=>by
  obtain⟨f,args,h1,h2⟩:=h a w hC hE
  rw[h1]
  exact⟨rfl,hal,h2.mono fun e w' ⟨u,he,hb,hΦ⟩=>⟨u,he,Rex.of_below hb,hΦ⟩⟩) hr
theorem Vu {P:Program} {ops:Array Oper} {C:World->Prop} {X:List (Nat×Nat)} {a0:Act} {Fin:List (Option Tmp×Bo)->Prop} {i:Nat} {o:Oper} {rest:List Oper} {acc:List (Option Tmp×Bo)}
  (Φ:Bo) {want:Bool} {k:Nat} {d:Tmp} (hcl:Bj (Bl X i) Φ) (hg:o.guard=some (k,want)) (hd:Cf ops k=some d) (hal:Az o=false) (hx:∀v w,Aj a0 acc d v w->v= .bool want)
  (h:∀(a:Act) (w:World),C w->(∀s∈o.looksAt ops,Aj a0 acc s (a.tmps.getD s undef) w)->∃v,(execOp a.eval o).run P w= .ok (.value v) w/\Φ v w)
  (hr:Aq P ops C X a0 Fin (i+1) rest ((o.dst,Φ)::acc)):Aq P ops C X a0 Fin i (o::rest) acc:=
 nd_on Φ want k d hcl hg hd hx (fun a w hC hE=>by
  obtain⟨v,h1,h2⟩:=h a w hC hE
  rw[h1]
  exact⟨Rex.refl _ _,h2,fun e=>by rw[hal] at e;cases e⟩) hr
def OV (B:Nat) (T:List Int):Bo:=fun v w=>Bp w B 2 1 v T.length (T.map (Value.int .i64))
theorem OV.closed (B:Nat) (T:List Int):Bj [] (OV B T):=fun _ _ _ hr h=>Bp.rex h hr rfl
def Qy (R n:Int):Int:=if n=0 then 1 else if R=0 then 2 else 3
theorem c_rkind (A R n d:Int) (w:World):Cb 196 #[.agg #[A,R,n,d]] w (.int .i64 (Qy R n)):=by
 unfold Qy
 go_enter Tryz.func196,Tryz.ntmps196
 by_cases h1:n=0
 ·subst h1
  rw[if_pos rfl]
  go_wp2
  go_ret
  exact⟨rfl,Aa⟩
 ·rw[if_neg h1]
  have h1':(n==0)=false:=by simp[h1]
  by_cases h2:R=0
  ·subst h2
   rw[if_pos rfl]
   go_wp2
   go_ret
   exact⟨rfl,Aa⟩
  ·rw[if_neg h2]
   have h2':(R==0)=false:=by simp[h2]
   go_wp2
   go_ret
   exact⟨rfl,Aa⟩
theorem rr_no1 (K A R n d E:Int) (p q:Option Addr) (len cap m vc:Nat) (w:World) (c1:∀W,Below w.heap.size w W->Cb 194 #[.slice p len cap] W (.bool false)):
  Cb 174 #[.agg #[K,.slice p len cap,A,R,n,d,.slice q m vc,E]] w (.bool false):=by
 have H_c1:=Hd c1
 clear c1
 go_enter Tryz.func174,Tryz.ntmps174
 go_wp2_with fail
 refine(H_c1.out _ Aa).mono ?_
 rintro e w1 ⟨rfl,hb1⟩
 have z2:=hb1.size
 try simp at z2
 refine Ae w w1 (Bc w.heap.size #[K,.slice p len cap,A,R,n,d,.slice q m vc,E] 98<|Bz) ?_
 rintro hW z3 ⟨⟨b1,yb1,k1,f1⟩,-⟩
 clear hb1
 go_wp2
 refine bodyPost_ret (v:= .bool false) (by simp[results,Tryz.results174,go_sem,k1,f1,yb1]) rfl ⟨rfl,hW⟩
theorem rr_no2 (K A R n d E:Int) (p q:Option Addr) (len cap m vc:Nat) (w:World) (hE:E<0∨1099511627776<E) (c1:∀W,Below w.heap.size w W->Cb 194 #[.slice p len cap] W (.bool true)):
  Cb 174 #[.agg #[K,.slice p len cap,A,R,n,d,.slice q m vc,E]] w (.bool false):=by
 rcases hE with hE|hE
 ·have H_c1:=Hd c1
  clear c1
  go_enter Tryz.func174,Tryz.ntmps174
  go_wp2_with fail
  refine(H_c1.out _ Aa).mono ?_
  rintro e w1 ⟨rfl,hb1⟩
  have z2:=hb1.size
  try simp at z2
  refine Ae w w1 (Bc w.heap.size #[K,.slice p len cap,A,R,n,d,.slice q m vc,E] 98<|Bz) ?_
  rintro hW z3 ⟨⟨b1,yb1,k1,f1⟩,-⟩
  clear hb1
  go_wp2
  refine bodyPost_ret (v:= .bool false) (by simp[results,Tryz.results174,go_sem,k1,f1,yb1]) rfl ⟨rfl,hW⟩
 ·have H_c1:=Hd c1
  clear c1
  go_enter Tryz.func174,Tryz.ntmps174
  go_wp2_with fail
  refine(H_c1.out _ Aa).mono ?_
  rintro e w1 ⟨rfl,hb1⟩
  have z2:=hb1.size
  try simp at z2
  refine Ae w w1 (Bc w.heap.size #[K,.slice p len cap,A,R,n,d,.slice q m vc,E] 98<|Bz) ?_
  rintro hW z3 ⟨⟨b1,yb1,k1,f1⟩,-⟩
  clear hb1
  go_wp2
  refine bodyPost_ret (v:= .bool false) (by simp[results,Tryz.results174,go_sem,k1,f1,yb1]) rfl ⟨rfl,hW⟩
theorem rr_raw0 (A R n d E:Int) (p q:Option Addr) (len cap m vc:Nat) (w:World) (hE0:0<=E) (hE1:E<=1099511627776) (hz:Hid (Kg A R n d=false)) (c1:∀W,Below w.heap.size w W->Cb 194 #[.slice p len cap] W (.bool true)):
  Cb 174 #[.agg #[.int .i64 4,.slice p len cap,A,R,n,d,.slice q m vc,E]] w (.bool false):=by
 have H_c1:=Hd c1
 clear c1
 go_enter Tryz.func174,Tryz.ntmps174
 go_wp2_with fail
 refine(H_c1.out _ Aa).mono ?_
 rintro e w1 ⟨rfl,hb1⟩
 have z2:=hb1.size
 try simp at z2
 refine Ae w w1 (Bc w.heap.size #[.int .i64 4,.slice p len cap,A,R,n,d,.slice q m vc,E] 98<|Bz) ?_
 rintro hW z3 ⟨⟨b1,yb1,k1,f1⟩,-⟩
 clear hb1
 go_upto_region 4 with(fail)
 clear k1 f1
 refine Ad w (Bc w.heap.size #[.int .i64 4,.slice p len cap,A,R,n,d,.slice q m vc,E] 98<|Bz) ?_
 clear b1 hW
 rintro W4 hW z5 hL
 obtain⟨⟨b1,yb1,k1,f1⟩,-⟩:=id hL
 clear k1 f1
 refine Br 14 60 hW hL ?_
 iterate 5
  apply Ag (hg:=rfl) (hal:=rfl)
  ·intro a W' hC hE
   obtain⟨_,⟨-,-,k1,-⟩,-⟩:=hC
   first
    |(simp at hE;simp[go_sem,Act.eval,iw,hE,k1,Jf,hz.out];try rfl)
    |(clear hE;simp[go_sem,Act.eval,iw,k1,Jf,hz.out];try rfl)
 apply Am (p:=true) (c:=undef) (hg:=rfl) (hd:=rfl) (hal:=rfl)
 ·intro v W' h
  simp at h
  simp
  exact h
 ·intro hp hx
  exact absurd hx (by decide)
 apply Am (p:=true) (c:=undef) (hg:=rfl) (hd:=rfl) (hal:=rfl)
 ·intro v W' h
  simp at h
  simp
  exact h
 ·intro hp hx
  exact absurd hx (by decide)
 apply Am (p:=true) (c:=undef) (hg:=rfl) (hd:=rfl) (hal:=rfl)
 ·intro v W' h
  simp at h
  simp
  exact h
 ·intro hp hx
  exact absurd hx (by decide)
 apply Am (p:=true) (c:=undef) (hg:=rfl) (hd:=rfl) (hal:=rfl)
 ·intro v W' h
  simp at h
  simp
  exact h
 ·intro hp hx
  exact absurd hx (by decide)
 apply Am (p:=true) (c:=undef) (hg:=rfl) (hd:=rfl) (hal:=rfl)
 ·intro v W' h
  simp at h
  simp
  exact h
 ·intro hp hx
  exact absurd hx (by decide)
 apply Am (p:=true) (c:=undef) (hg:=rfl) (hd:=rfl) (hal:=rfl)
 ·intro v W' h
  simp at h
  simp
  exact h
 ·intro hp hx
  exact absurd hx (by decide)
 apply Am (p:=true) (c:=undef) (hg:=rfl) (hd:=rfl) (hal:=rfl)
 ·intro v W' h
  simp at h
  simp
  exact h
 ·intro hp hx
  exact absurd hx (by decide)
 apply Am (p:=true) (c:=undef) (hg:=rfl) (hd:=rfl) (hal:=rfl)
 ·intro v W' h
  simp at h
  simp
  exact h
 ·intro hp hx
  exact absurd hx (by decide)
 apply El (y:=false) (ho:=rfl) (hg:=rfl)
 ·intro v W' h
  simp at h
  exact h
 ·intro v W' h hx
  exact absurd hx (by decide)
 clear hW hL b1
 rintro W6 hW z7 hL
 simp only[ndR]
 intros
 repeat (rename Ao _ _ _ _=>hgd;clear hgd)
 simp only[ndS]
 refine wpList_nil ?_
 obtain⟨⟨b1,yb1,k1,f1⟩,-⟩:=hL
 rw[Bool.true_or]
 go_wp2
 refine bodyPost_ret (v:= .bool false) (by simp[results,Tryz.results174,go_sem,k1,f1,yb1]) rfl ⟨rfl,hW⟩
theorem rr_raw2 (A R n d E:Int) (p q:Option Addr) (len cap m vc:Nat) (w:World) (T:List Int) (ok:Bool) (hm:Hid (m=T.length)) (hE0:0<=E) (hE1:E<=1099511627776) (hz:Hid (Kg A R n d=true)) (c1:∀W,Below w.heap.size w W->Cb 194 #[.slice p len cap] W (.bool true)) (c2:∀W,Below w.heap.size w W->Calls Tryz.prog 85 #[.slice p len cap] W fun e w'=>∃v,e= .returned v/\Bp w' W.heap.size 2 1 v T.length (T.map (Value.int .i64))/\Below W.heap.size W w') (c3:∀W,Below w.heap.size w W->Calls Tryz.prog 62 #[.agg #[.int .i64 4,.slice p len cap,A,R,n,d,.slice q m vc,E]] W fun e w'=>∃v,e= .returned (.tuple #[v,.bool ok])/\Below W.heap.size W w'):
  Cb 174 #[.agg #[.int .i64 4,.slice p len cap,A,R,n,d,.slice q m vc,E]] w (.bool ok):=by
 have H_c1:=Hd c1
 clear c1
 have H_c2:=Hd c2
 clear c2
 have H_c3:=Hd c3
 clear c3
 go_enter Tryz.func174,Tryz.ntmps174
 go_wp2_with fail
 refine(H_c1.out _ Aa).mono ?_
 rintro e w1 ⟨rfl,hb1⟩
 have z2:=hb1.size
 try simp at z2
 refine Ae w w1 (Bc w.heap.size #[.int .i64 4,.slice p len cap,A,R,n,d,.slice q m vc,E] 98<|Bz) ?_
 rintro hW z3 ⟨⟨b1,yb1,k1,f1⟩,-⟩
 clear hb1
 have c2:=H_c2.out
 go_upto_region 4 with(fail)
 clear k1 f1
 refine Ad w (Bc w.heap.size #[.int .i64 4,.slice p len cap,A,R,n,d,.slice q m vc,E] 98<|Bz) ?_
 clear b1 hW
 rintro W4 hW z5 hL
 obtain⟨⟨b1,yb1,k1,f1⟩,-⟩:=id hL
 clear k1 f1
 refine Br 14 60 hW hL ?_
 iterate 5
  apply Ag (hg:=rfl) (hal:=rfl)
  ·intro a W' hC hE
   obtain⟨_,⟨-,-,k1,-⟩,-⟩:=hC
   first
    |(simp at hE;simp[go_sem,Act.eval,iw,hE,k1,Jf,hz.out];try rfl)
    |(clear hE;simp[go_sem,Act.eval,iw,k1,Jf,hz.out];try rfl)
 iterate 5
  apply Am (p:=true) (hg:=rfl) (hd:=rfl) (hal:=rfl)
  ·intro v W' h
   simp[Aj,Det,Ao] at h
   simp
   exact h
  ·intro hp hx a W' hC hE
   obtain⟨_,⟨-,-,k1,-⟩,-⟩:=hC
   simp[hx] at hE
   simp[go_sem,Act.eval,iw,hE,k1,Jf,hz.out]
   try rfl
 apply G8 (OV 0 T) (hg:=rfl) (hd:=rfl) (hal:=rfl)
 ·exact OV.closed _ _
 ·intro v W' h
  simp at h
  exact h
 ·intro a W' hC hE
  obtain⟨hR9,k1⟩:=hC
  simp[Oper.looksAt,Op.operands,Call.operands,Aj,Det,Ao] at hE
  refine⟨_,_,?_,(H_c2.out W' (hW.trans (hR9.of_priv hW.size))).mono ?_⟩
  ·simp[go_sem,Act.eval,hE]
   try rfl
  ·rintro e w' ⟨v,rfl,hv,hB⟩
   exact⟨_,rfl,hB,hv.mono (Nat.zero_le _)⟩
 apply Vu (Det (.int .i64 (T.length:Int))) (hg:=rfl) (hd:=rfl) (hal:=rfl)
 ·exact Ev _ _
 ·intro v W' h
  simp at h
  exact h
 ·intro a W' hC hE
  simp[Oper.looksAt,Op.operands,Call.operands,Aj,Det,Ao] at hE
  obtain⟨h1,h2⟩:=hE
  obtain⟨p9,c9,e9,-,-,-,-⟩:=Bp.form h1
  refine⟨_,?_,rfl⟩
  simp[go_sem,Act.eval,e9]
 iterate 1
  apply Am (p:=true) (hg:=rfl) (hd:=rfl) (hal:=rfl)
  ·intro v W' h
   simp[Aj,Det,Ao] at h
   simp
   exact h
  ·intro hp hx a W' hC hE
   obtain⟨_,⟨-,-,k1,-⟩,-⟩:=hC
   simp[hx] at hE
   simp[go_sem,Act.eval,iw,hE,k1,Jf,hz.out]
   try rfl
 refine pO ?_
 clear hW hL b1
 rintro W6 hW z7 hL
 simp only[ndR]
 intros
 repeat (rename Ao _ _ _ _=>hgd;clear hgd)
 simp only[ndS]
 refine wpList_nil ?_
 obtain⟨⟨b1,yb1,k1,f1⟩,-⟩:=hL
 clear c2
 rw[show (false||(m:Int) !=(T.length:Int))=false by simp[hm.out]]
 have z77:=hW.size
 go_wp2_with fail
 refine(H_c3.out _ Aa).mono ?_
 rintro e w8 ⟨v9,rfl,hb8⟩
 have z9:=hb8.size
 try simp at z9
 clear k1 f1
 refine Ae w w8 (Bc w.heap.size #[.int .i64 4,.slice p len cap,A,R,n,d,.slice q m vc,E] 98<|Bz) ?_
 clear b1 hW
 rintro hW z10 ⟨⟨b1,yb1,k1,f1⟩,-⟩
 go_wp2
 refine bodyPost_ret (v:= .bool ok) (by simp[results,Tryz.results174,go_sem,k1,f1,yb1]) rfl ⟨rfl,hW⟩
theorem rr_line0 (K A R n d E:Int) (p q:Option Addr) (len cap m vc:Nat) (w:World) (hK:(K==4)=false) (hF:Hid ((decide (0<m)|| !Cw A R n d||K !=Qy R n)=true)) (hE0:0<=E) (hE1:E<=1099511627776) (c1:∀W,Below w.heap.size w W->Cb 194 #[.slice p len cap] W (.bool true)):
  Cb 174 #[.agg #[K,.slice p len cap,A,R,n,d,.slice q m vc,E]] w (.bool false):=by
 have H_c1:=Hd c1
 clear c1
 go_enter Tryz.func174,Tryz.ntmps174
 go_wp2_with fail
 refine(H_c1.out _ Aa).mono ?_
 rintro e w1 ⟨rfl,hb1⟩
 have z2:=hb1.size
 try simp at z2
 refine Ae w w1 (Bc w.heap.size #[K,.slice p len cap,A,R,n,d,.slice q m vc,E] 98<|Bz) ?_
 rintro hW z3 ⟨⟨b1,yb1,k1,f1⟩,-⟩
 clear hb1
 go_upto_region 6 with(fail)
 clear k1 f1
 refine Ad w (Bc w.heap.size #[K,.slice p len cap,A,R,n,d,.slice q m vc,E] 98<|Bz) ?_
 clear b1 hW
 rintro W4 hW z5 hL
 refine Br 18 60 hW hL ?_
 iterate 5 refine dA ?_
 iterate 2 refine gA ?_
 refine cG (fun hp hx W' hC=>c_rline A R n d W') ?_
 refine gA ?_
 refine pO ?_
 refine dA ?_
 iterate 4 refine gA ?_
 refine cG (fun hp hx W' hC=>c_rkind A R n d W') ?_
 refine gA ?_
 refine pO ?_
 clear hW hL
 rintro W6 hW z7 hL
 simp only[ndR]
 intros
 repeat (rename Ao _ _ _ _=>hgd;clear hgd)
 simp only[ndS]
 refine wpList_nil ?_
 obtain⟨⟨b1,yb1,k1,f1⟩,-⟩:=hL
 rw[hF.out]
 go_wp2
 refine bodyPost_ret (v:= .bool false) (by simp[results,Tryz.results174,go_sem,k1,f1,yb1]) rfl ⟨rfl,hW⟩
theorem rr_line1 (K A R n d E:Int) (p q:Option Addr) (len cap m vc:Nat) (w:World) (ok:Bool) (hK:(K==4)=false) (hF:Hid ((decide (0<m)|| !Cw A R n d||K !=Qy R n)=false)) (hE0:0<=E) (hE1:E<=1099511627776) (c1:∀W,Below w.heap.size w W->Cb 194 #[.slice p len cap] W (.bool true)) (c3:∀W,Below w.heap.size w W->Calls Tryz.prog 62 #[.agg #[K,.slice p len cap,A,R,n,d,.slice q m vc,E]] W fun e w'=>∃v,e= .returned (.tuple #[v,.bool ok])/\Below W.heap.size W w'):
  Cb 174 #[.agg #[K,.slice p len cap,A,R,n,d,.slice q m vc,E]] w (.bool ok):=by
 have H_c1:=Hd c1
 clear c1
 have H_c3:=Hd c3
 clear c3
 go_enter Tryz.func174,Tryz.ntmps174
 go_wp2_with fail
 refine(H_c1.out _ Aa).mono ?_
 rintro e w1 ⟨rfl,hb1⟩
 have z2:=hb1.size
 try simp at z2
 refine Ae w w1 (Bc w.heap.size #[K,.slice p len cap,A,R,n,d,.slice q m vc,E] 98<|Bz) ?_
 rintro hW z3 ⟨⟨b1,yb1,k1,f1⟩,-⟩
 clear hb1
 go_upto_region 6 with(fail)
 clear k1 f1
 refine Ad w (Bc w.heap.size #[K,.slice p len cap,A,R,n,d,.slice q m vc,E] 98<|Bz) ?_
 clear b1 hW
 rintro W4 hW z5 hL
 refine Br 18 60 hW hL ?_
 iterate 5 refine dA ?_
 iterate 2 refine gA ?_
 refine cG (fun hp hx W' hC=>c_rline A R n d W') ?_
 refine gA ?_
 refine pO ?_
 refine dA ?_
 iterate 4 refine gA ?_
 refine cG (fun hp hx W' hC=>c_rkind A R n d W') ?_
 refine gA ?_
 refine pO ?_
 clear hW hL
 rintro W6 hW z7 hL
 simp only[ndR]
 intros
 repeat (rename Ao _ _ _ _=>hgd;clear hgd)
 simp only[ndS]
 refine wpList_nil ?_
 obtain⟨⟨b1,yb1,k1,f1⟩,-⟩:=hL
 rw[hF.out]
 have z77:=hW.size
 go_wp2_with fail
 refine(H_c3.out _ Aa).mono ?_
 rintro e w8 ⟨v9,rfl,hb8⟩
 have z9:=hb8.size
 try simp at z9
 clear k1 f1
 refine Ae w w8 (Bc w.heap.size #[K,.slice p len cap,A,R,n,d,.slice q m vc,E] 98<|Bz) ?_
 clear b1 hW
 rintro hW z10 ⟨⟨b1,yb1,k1,f1⟩,-⟩
 go_wp2
 refine bodyPost_ret (v:= .bool ok) (by simp[results,Tryz.results174,go_sem,k1,f1,yb1]) rfl ⟨rfl,hW⟩
theorem rr_raw1 (A R n d E:Int) (p q:Option Addr) (len cap m vc:Nat) (w:World) (T:List Int) (hm:¬m=T.length) (hE0:0<=E) (hE1:E<=1099511627776) (hz:Hid (Kg A R n d=true)) (c1:∀W,Below w.heap.size w W->Cb 194 #[.slice p len cap] W (.bool true)) (c2:∀W,Below w.heap.size w W->Calls Tryz.prog 85 #[.slice p len cap] W fun e w'=>∃v,e= .returned v/\Bp w' W.heap.size 2 1 v T.length (T.map (Value.int .i64))/\Below W.heap.size W w'):
  Cb 174 #[.agg #[.int .i64 4,.slice p len cap,A,R,n,d,.slice q m vc,E]] w (.bool false):=by
 have H_c1:=Hd c1
 clear c1
 have H_c2:=Hd c2
 clear c2
 go_enter Tryz.func174,Tryz.ntmps174
 go_wp2_with fail
 refine(H_c1.out _ Aa).mono ?_
 rintro e w1 ⟨rfl,hb1⟩
 have z2:=hb1.size
 try simp at z2
 refine Ae w w1 (Bc w.heap.size #[.int .i64 4,.slice p len cap,A,R,n,d,.slice q m vc,E] 98<|Bz) ?_
 rintro hW z3 ⟨⟨b1,yb1,k1,f1⟩,-⟩
 clear hb1
 have c2:=H_c2.out
 go_upto_region 4 with(fail)
 clear k1 f1
 refine Ad w (Bc w.heap.size #[.int .i64 4,.slice p len cap,A,R,n,d,.slice q m vc,E] 98<|Bz) ?_
 clear b1 hW
 rintro W4 hW z5 hL
 obtain⟨⟨b1,yb1,k1,f1⟩,-⟩:=id hL
 clear k1 f1
 refine Br 14 60 hW hL ?_
 iterate 5
  apply Ag (hg:=rfl) (hal:=rfl)
  ·intro a W' hC hE
   obtain⟨_,⟨-,-,k1,-⟩,-⟩:=hC
   first
    |(simp at hE;simp[go_sem,Act.eval,iw,hE,k1,Jf,hz.out];try rfl)
    |(clear hE;simp[go_sem,Act.eval,iw,k1,Jf,hz.out];try rfl)
 iterate 5
  apply Am (p:=true) (hg:=rfl) (hd:=rfl) (hal:=rfl)
  ·intro v W' h
   simp[Aj,Det,Ao] at h
   simp
   exact h
  ·intro hp hx a W' hC hE
   obtain⟨_,⟨-,-,k1,-⟩,-⟩:=hC
   simp[hx] at hE
   simp[go_sem,Act.eval,iw,hE,k1,Jf,hz.out]
   try rfl
 apply G8 (OV 0 T) (hg:=rfl) (hd:=rfl) (hal:=rfl)
 ·exact OV.closed _ _
 ·intro v W' h
  simp at h
  exact h
 ·intro a W' hC hE
  obtain⟨hR9,k1⟩:=hC
  simp[Oper.looksAt,Op.operands,Call.operands,Aj,Det,Ao] at hE
  refine⟨_,_,?_,(H_c2.out W' (hW.trans (hR9.of_priv hW.size))).mono ?_⟩
  ·simp[go_sem,Act.eval,hE]
   try rfl
  ·rintro e w' ⟨v,rfl,hv,hB⟩
   exact⟨_,rfl,hB,hv.mono (Nat.zero_le _)⟩
 apply Vu (Det (.int .i64 (T.length:Int))) (hg:=rfl) (hd:=rfl) (hal:=rfl)
 ·exact Ev _ _
 ·intro v W' h
  simp at h
  exact h
 ·intro a W' hC hE
  simp[Oper.looksAt,Op.operands,Call.operands,Aj,Det,Ao] at hE
  obtain⟨h1,h2⟩:=hE
  obtain⟨p9,c9,e9,-,-,-,-⟩:=Bp.form h1
  refine⟨_,?_,rfl⟩
  simp[go_sem,Act.eval,e9]
 iterate 1
  apply Am (p:=true) (hg:=rfl) (hd:=rfl) (hal:=rfl)
  ·intro v W' h
   simp[Aj,Det,Ao] at h
   simp
   exact h
  ·intro hp hx a W' hC hE
   obtain⟨_,⟨-,-,k1,-⟩,-⟩:=hC
   simp[hx] at hE
   simp[go_sem,Act.eval,iw,hE,k1,Jf,hz.out]
   try rfl
 refine pO ?_
 clear hW hL b1
 rintro W6 hW z7 hL
 simp only[ndR]
 intros
 repeat (rename Ao _ _ _ _=>hgd;clear hgd)
 simp only[ndS]
 refine wpList_nil ?_
 obtain⟨⟨b1,yb1,k1,f1⟩,-⟩:=hL
 clear c2
 rw[show (false||(m:Int) !=(T.length:Int))=true by simp;omega]
 go_wp2
 refine bodyPost_ret (v:= .bool false) (by simp[results,Tryz.results174,go_sem,k1,f1,yb1]) rfl ⟨rfl,hW⟩
end Go.Proofs.YtidfcoooccblaaaGreat
namespace Go.Proofs.YtidfcoooccblaaaGreat
open Go.RowKit
theorem Yq {A R n d:Int} (h:Cw A R n d=true) (hn:n=0):R=0:=by
 unfold Cw at h
 simp only[Bool.and_eq_true,decide_eq_true_eq] at h
 obtain⟨⟨⟨⟨_,hs⟩,hg⟩,h0⟩,h1⟩:=h
 have:=Hh hs
 subst hn
 unfold Jh at hg
 simp at hg
 omega
theorem ends_iff {s:A4} (hl:Ce s.runs) (hi:Cw s.A s.R s.n s.d=true):Gd s.A s.R s.n s.d 0 (Cy s.runs-Bm s.runs)=((Af s.runs).map (Dj s)).all A6:=by
 rw[Bool.eq_iff_iff]
 constructor
 ·intro h
  have hL:Ke s:=⟨hl,Jo.1 hi,h⟩
  rw[List.all_eq_true]
  intro y hy
  obtain⟨t,ht,rfl⟩:=List.mem_map.1 hy
  have:=Fu hl ht
  exact hL.back this.1 this.2.1
 ·intro h
  rw[List.all_eq_true] at h
  have hc:=D6 hl
  have key:∀i:Int,0<=i->i<cnt s.runs->A6 (Dj s (atV s.runs i))=true:=by
   intro i h0 h1
   obtain⟨v,_,hm,e,_⟩:=Oe hl h0 h1
   rw[e]
   exact h _ (List.mem_map_of_mem hm)
  have a:=key 0 (by omega) (by omega)
  have b:=key (cnt s.runs-1) (by omega) (by omega)
  unfold Gd
  unfold Dj Bm at a b
  rw[show atV s.runs 0-atV s.runs 0=0 by omega] at a
  rw[Bool.and_eq_true]
  exact⟨a,b⟩
theorem Rw {s:A4} (hK:s.K≠4):Fc s=(Af s.runs).map (Dj s):=by unfold Fc;rw[if_neg hK]
theorem Uy {s:A4} (hK:s.K=4):Fc s=s.raw:=by unfold Fc;rw[if_pos hK]
theorem Mx {s:A4} (hl:Ce s.runs) (hK:s.K≠4):K8 s=(!(decide (0<s.raw.length)|| !Cw s.A s.R s.n s.d||s.K !=Qy s.R s.n)&&(Fc s).all A6):=by
 rw[Rw hK]
 unfold K8 Hs
 cases hi:Cw s.A s.R s.n s.d with
 |false=>simp[hK]
 |true=>
  rw[<-ends_iff hl hi]
  generalize Gd s.A s.R s.n s.d 0 (Cy s.runs-Bm s.runs)=e
  have hr:s.raw.isEmpty= !decide (0<s.raw.length):=by cases s.raw<;>simp
  rw[hr]
  unfold Qy
  by_cases h1:s.n=0
  ·have h2:=Yq hi h1
   by_cases k1:s.K=1
   ·simp[h1,k1,Bool.and_comm]
   ·by_cases k2:s.K=2
    ·simp[h1,k2]
    ·by_cases k3:s.K=3
     ·simp[h1,h2,k3]
     ·simp[h1,k1,k2,k3,hK]
  ·by_cases h2:s.R=0
   ·by_cases k1:s.K=1
    ·simp[h1,h2,k1]
    ·by_cases k2:s.K=2
     ·simp[h1,h2,k2,Bool.and_comm]
     ·by_cases k3:s.K=3
      ·simp[h1,h2,k3]
      ·simp[h1,h2,k1,k2,k3,hK]
   ·by_cases k1:s.K=1
    ·simp[h1,h2,k1]
    ·by_cases k2:s.K=2
     ·simp[h1,h2,k2]
     ·by_cases k3:s.K=3
      ·simp[h1,h2,k3,Bool.and_comm]
      ·simp[h1,h2,k1,k2,k3,hK]
theorem O0 {s:A4} (hK:s.K=4):K8 s=(Kg s.A s.R s.n s.d&&(s.raw.length:Int)==cnt s.runs&&(Fc s).all A6):=by
 rw[Uy hK]
 unfold K8
 simp[hK]
theorem M2 {p:Option Addr} {cap:Nat} {l:List Ah} {w:World} (hl:Ce l) (h:Ai w p l) (hlen:l.length<=300):∀W,Below w.heap.size w W->Calls Tryz.prog 85 #[.slice p l.length cap] W fun e w'=>∃v,e= .returned v/\Bp w' W.heap.size 2 1 v (Af l).length ((Af l).map (Value.int .i64))/\Below W.heap.size W w':=by
 intro W hW
 have:=Ms p cap l W (h.below hW) (by omega)
 rw[U4 hl] at this
 exact this
def Zu (s:A4):Prop:=(s.K=4/\(s.raw.length:Int)=cnt s.runs)∨(s.K≠4/\Cw s.A s.R s.n s.d=true)
theorem length_tl {l:List Ah} (hl:Ce l):1<=(Af l).length/\(Af l).length<=256:=by
 have h1:=B7 hl
 have h2:=D6 hl
 omega
theorem Wi (s:A4) (p q:Option Addr) (cap vc:Nat) (w:World) (h:C7 w s p q) (hl:Ce s.runs) (hd:Zu s):
  Calls Tryz.prog 62 #[.agg (Dh s p q cap vc)] w (Uu w (Af s.runs) (Fc s)):=by
 have ht:=B7 hl
 have h256:=length_tl hl
 have c1:=fun(W:World) (hW:Below w.heap.size w W)=>M2 (cap:=cap) hl h.runs h.fewR W hW
 rcases hd with⟨hK,hr⟩|⟨hK,hi⟩
 ·rw[Uy hK]
  obtain⟨b,o,e,_⟩:=h.raw.at' 0 _ (List.getElem?_eq_getElem (show 0<s.raw.length by omega))
  have hraw:=h.raw
  rw[e] at hraw
  have:=pts_raw s.A s.R s.n s.d s.E p s.runs.length cap b o vc (Af s.runs) s.raw w ⟨hraw⟩ (by omega) h256.1 h256.2 c1
  unfold Dh
  rw[hK,e]
  exact this
 ·rw[Rw hK]
  have hx0:(Af s.runs)[0]? =some (Bm s.runs):=Lk hl (k:=0) (by omega)
  have hv:∀(i:Nat) (x y:Int),(Af s.runs)[i]? =some x->((Af s.runs).map (Dj s))[i]? =some y->0<=x-Bm s.runs/\x-Bm s.runs<=281474976710656/\y=Bk s.A s.R s.n s.d (x-Bm s.runs):=by
   intro i x y hx hy
   rw[List.getElem?_map,hx] at hy
   have hm:=Fu hl (List.mem_of_getElem? hx)
   have hf:=Q6 hl
   simp at hy
   exact⟨by omega,by omega,by rw[<-hy];rfl⟩
  refine pts_line s.K s.A s.R s.n s.d s.E (Bm s.runs) p q s.runs.length cap s.raw.length vc (Af s.runs) _ w (by simp[hK]) (by simp) h256.1 h256.2 hx0 (fun x hx=>by have:=Fu hl hx;omega) c1 ?_ ?_
  ·intro W i x y hx hy hb
   obtain⟨a1,a2,rfl⟩:=hv i x y hx hy
   exact c_rat_yes hi a1 a2 hb W
  ·intro W i x y hx hy hb
   obtain⟨a1,a2,rfl⟩:=hv i x y hx hy
   exact c_rat_no hi a1 a2 hb W
theorem Q9 (s:A4) (p q:Option Addr) (cap vc:Nat) (w:World) (h:C7 w s p q) (hl:Ce s.runs) (hd:Zu s):
  Calls Tryz.prog 62 #[.agg (Dh s p q cap vc)] w fun e w'=>∃v,e= .returned (.tuple #[v,.bool ((Fc s).all A6)])/\Below w.heap.size w w':=by
 refine(Wi s p q cap vc w h hl hd).mono ?_
 rintro e w' ⟨hB,⟨h1,v,rfl,_⟩|⟨h1,rfl⟩⟩
 ·exact⟨v,by rw[h1],hB⟩
 ·exact⟨_,by rw[h1],hB⟩
theorem Zc (s:A4) (p q:Option Addr) (cap vc:Nat) (w:World) (h:C7 w s p q):
  Cb 174 #[.agg (Dh s p q cap vc)] w (.bool (C1 s)):=by
 have c1:=fun(W:World) (hW:Below w.heap.size w W)=>Za p cap s.runs W (by have:=h.fewR;omega) (h.runs.below hW)
 unfold C1
 cases hr:Fe s.runs with
 |false=>
  rw[hr] at c1
  rw[Bool.false_and]
  exact rr_no1 s.K s.A s.R s.n s.d s.E p q s.runs.length cap s.raw.length vc w c1
 |true=>
  rw[hr] at c1
  rw[Bool.true_and]
  have hl:=(D1 _).1 hr
  by_cases hE:s.E<0∨1099511627776<s.E
  ·rw[show (decide (0<=s.E)&&decide (s.E<=1099511627776)&&K8 s)=false by
    rcases hE with hE|hE
    ·rw[decide_eq_false (show¬0<=s.E by omega)];rfl
    ·rw[decide_eq_false (show¬s.E<=1099511627776 by omega),Bool.and_false];rfl]
   exact rr_no2 s.K s.A s.R s.n s.d s.E p q s.runs.length cap s.raw.length vc w hE c1
  ·have hE0:0<=s.E:=by omega
   have hE1:s.E<=1099511627776:=by omega
   rw[decide_eq_true hE0,decide_eq_true hE1,Bool.true_and,Bool.true_and]
   by_cases hK:s.K=4
   ·rw[O0 hK]
    have ht:=B7 hl
    have c2:=fun(W:World) (hW:Below w.heap.size w W)=>M2 (cap:=cap) hl h.runs h.fewR W hW
    cases hz:Kg s.A s.R s.n s.d with
    |false=>
     have:=rr_raw0 s.A s.R s.n s.d s.E p q s.runs.length cap s.raw.length vc w hE0 hE1 (Hd hz) c1
     unfold Dh
     rw[hK]
     exact this
    |true=>
     by_cases hm:(s.raw.length:Int)=cnt s.runs
     ·rw[show ((s.raw.length:Int)==cnt s.runs)=true by simp[hm],Bool.true_and,Bool.true_and]
      have c3:=fun(W:World) (hW:Below w.heap.size w W)=>Q9 s p q cap vc W (h.below hW) hl (.inl ⟨hK,hm⟩)
      unfold Dh at c3⊢
      rw[hK] at c3⊢
      exact rr_raw2 s.A s.R s.n s.d s.E p q s.runs.length cap s.raw.length vc w (Af s.runs) _ (Hd (by omega)) hE0 hE1 (Hd hz) c1 c2 c3
     ·rw[show ((s.raw.length:Int)==cnt s.runs)=false by simp[hm],Bool.and_false,Bool.false_and]
      have:=rr_raw1 s.A s.R s.n s.d s.E p q s.runs.length cap s.raw.length vc w (Af s.runs) (by omega) hE0 hE1 (Hd hz) c1 c2
      unfold Dh
      rw[hK]
      exact this
   ·rw[Mx hl hK]
    cases hF:(decide (0<s.raw.length)|| !Cw s.A s.R s.n s.d||s.K !=Qy s.R s.n) with
    |true=>exact rr_line0 s.K s.A s.R s.n s.d s.E p q s.runs.length cap s.raw.length vc w (by simp[hK]) (Hd hF) hE0 hE1 c1
    |false=>
     have hi:Cw s.A s.R s.n s.d=true:=by
      cases hi:Cw s.A s.R s.n s.d with
      |true=>rfl
      |false=>rw[hi] at hF;simp at hF
     rw[Bool.not_false,Bool.true_and]
     exact rr_line1 s.K s.A s.R s.n s.d s.E p q s.runs.length cap s.raw.length vc w _ (by simp[hK]) (Hd hF) hE0 hE1 c1 (fun W hW=>Q9 s p q cap vc W (h.below hW) hl (.inr ⟨hK,hi⟩))
theorem ptsDom_of {s:A4} (hs:C1 s=true):Zu s:=by
 have hl:=By hs
 have hk:=Oo hs
 by_cases hK:s.K=4
 ·rw[O0 hK] at hk
  simp only[Bool.and_eq_true,beq_iff_eq] at hk
  exact .inl ⟨hK,hk.1.2⟩
 ·rw[Mx hl hK] at hk
  refine .inr ⟨hK,?_⟩
  cases hi:Cw s.A s.R s.n s.d with
  |true=>rfl
  |false=>rw[hi] at hk;simp at hk
theorem vals_all {s:A4} (hs:C1 s=true):(Fc s).all A6=true:=by
 have hl:=By hs
 have hk:=Oo hs
 by_cases hK:s.K=4
 ·rw[O0 hK] at hk
  simp only[Bool.and_eq_true] at hk
  exact hk.2
 ·rw[Mx hl hK] at hk
  simp only[Bool.and_eq_true] at hk
  exact hk.2
theorem Wj (s:A4) (p q:Option Addr) (cap vc:Nat) (w:World) (h:C7 w s p q) (hs:C1 s=true):
  Calls Tryz.prog 62 #[.agg (Dh s p q cap vc)] w fun e w'=>∃v,e= .returned (.tuple #[v,.bool true])/\Bp w' w.heap.size 91 2 v (Dr s).length (B8 (Dr s))/\Below w.heap.size w w':=by
 have hl:=By hs
 refine(Wi s p q cap vc w h hl (ptsDom_of hs)).mono ?_
 rintro e w' ⟨hB,⟨_,v,rfl,hv⟩|⟨h1,_⟩⟩
 ·refine⟨v,rfl,?_,hB⟩
  rw[show (Dr s).length=(Af s.runs).length by have a:=Mw hs;have b:=B7 hl;omega]
  exact hv
 ·rw[vals_all hs] at h1;cases h1
theorem Wp (r:Nat) (w:World):Cb 173 #[.int .u8 r] w (.bool (Eh r)):=by
 go_enter Tryz.func173,Tryz.ntmps173
 go_upto_region 1 with(fail)
 refine Ad w (Bz) ?_
 rintro W1 hW z2 hL
 refine B3 15 17 hW hL ?_
 iterate 3 refine dA ?_
 iterate 2 refine gA ?_
 refine pA ?_
 refine dA ?_
 iterate 3 refine gA ?_
 iterate 2 refine gB ?_
 refine pgA ?_
 refine pO ?_
 refine dA ?_
 clear hW hL
 rintro W3 hW z4 hL
 simp only[ndR]
 intros
 repeat (rename Ao _ _ _ _=>hgd;clear hgd)
 simp only[ndS]
 refine wpList_nil ?_
 obtain⟨-⟩:=hL
 go_wp2
 refine bodyPost_ret (v:= .bool ((decide (97<=(r:Int))&&decide ((r:Int)<=122))||(decide (48<=(r:Int))&&decide ((r:Int)<=57)))) (by simp[results,Tryz.results173,go_sem]) rfl ⟨?_,by exact Aa⟩
 congr 2
 unfold Eh
 rw[Bool.eq_iff_iff]
 simp only[Bool.or_eq_true,Bool.and_eq_true,decide_eq_true_eq]
 omega
theorem c_r18Time (n:Int) (w:World):Cb 134 #[n] w (.bool (btw n (0) 281474976710656)):=by
 unfold btw
 go_enter Tryz.func134,Tryz.ntmps134
 go_upto_region 1 with(fail)
 refine Ad w (Bz) ?_
 rintro W1 hW z2 hL
 refine B3 7 9 hW hL ?_
 iterate 3 refine dA ?_
 iterate 2 refine gA ?_
 refine pA ?_
 refine dA ?_
 clear hW hL
 rintro W3 hW z4 hL
 simp only[ndR]
 intros
 repeat (rename Ao _ _ _ _=>hgd;clear hgd)
 simp only[ndS]
 refine wpList_nil ?_
 obtain⟨-⟩:=hL
 go_wp2
 refine bodyPost_ret (by simp[results,Tryz.results134,go_sem]) rfl ⟨rfl,by exact Aa⟩
theorem c_r13Eps (n:Int) (w:World):Cb 132 #[n] w (.bool (btw n (0) 1099511627776)):=by
 unfold btw
 go_enter Tryz.func132,Tryz.ntmps132
 go_upto_region 1 with(fail)
 refine Ad w (Bz) ?_
 rintro W1 hW z2 hL
 refine B3 7 9 hW hL ?_
 iterate 3 refine dA ?_
 iterate 2 refine gA ?_
 refine pA ?_
 refine dA ?_
 clear hW hL
 rintro W3 hW z4 hL
 simp only[ndR]
 intros
 repeat (rename Ao _ _ _ _=>hgd;clear hgd)
 simp only[ndS]
 refine wpList_nil ?_
 obtain⟨-⟩:=hL
 go_wp2
 refine bodyPost_ret (by simp[results,Tryz.results132,go_sem]) rfl ⟨rfl,by exact Aa⟩
theorem Ze (n:Int) (w:World):Cb 133 #[n] w (.bool (btw n (-40) 40)):=by
 unfold btw
 go_enter Tryz.func133,Tryz.ntmps133
 go_upto_region 1 with(fail)
 refine Ad w (Bz) ?_
 rintro W1 hW z2 hL
 refine B3 7 9 hW hL ?_
 iterate 3 refine dA ?_
 iterate 2 refine gA ?_
 refine pA ?_
 refine dA ?_
 clear hW hL
 rintro W3 hW z4 hL
 simp only[ndR]
 intros
 repeat (rename Ao _ _ _ _=>hgd;clear hgd)
 simp only[ndS]
 refine wpList_nil ?_
 obtain⟨-⟩:=hL
 go_wp2
 refine bodyPost_ret (by simp[results,Tryz.results133,go_sem]) rfl ⟨rfl,by exact Aa⟩
theorem Zh (t v:Int) (w:World):Cb 137 #[.agg #[t,v]] w (.bool (btw t 0 281474976710656&&btw v (-2305843009213693952) 2305843009213693952)):=by
 unfold btw
 rw[<-Bool.and_assoc]
 go_enter Tryz.func137,Tryz.ntmps137
 go_upto_region 1 with(fail)
 refine Ad w (Bc w.heap.size #[t,v] 91<|Bz) ?_
 rintro W1 hW z2 hL
 refine B3 19 21 hW hL ?_
 iterate 4 refine dA ?_
 iterate 3 refine gA ?_
 refine pA ?_
 refine dA ?_
 iterate 3 refine gA ?_
 refine pA ?_
 refine dA ?_
 iterate 3 refine gA ?_
 refine pA ?_
 refine dA ?_
 clear hW hL
 rintro W3 hW z4 hL
 simp only[ndR]
 intros
 repeat (rename Ao _ _ _ _=>hgd;clear hgd)
 simp only[ndS]
 refine wpList_nil ?_
 obtain⟨⟨b1,yb1,k1,f1⟩,-⟩:=hL
 go_wp2
 refine bodyPost_ret (by simp[results,Tryz.results137,go_sem,k1,f1,yb1]) rfl ⟨rfl,by exact Aa⟩
theorem let_step (s:ByteArray) (f pos:Nat) (h:pos<s.size):C3 s (f+1) pos=(Eh (s[pos]'h).toNat&&C3 s f (pos+1)):=by
 have e:C3 s (f+1) pos=(Eh (Utf8.decode s pos).1&&C3 s f (pos+(Utf8.decode s pos).2)):=by simp[C3,h]
 rw[e]
 by_cases ha:(s[pos]'h).toNat<128
 ·rw[decode_ascii s pos h ha]
 ·have h1:=(decode_high s pos h (by omega)).1
  have n1:Eh (Utf8.decode s pos).1=false:=by unfold Eh;simp;omega
  have n2:Eh (s[pos]'h).toNat=false:=by unfold Eh;simp;omega
  rw[n1,n2,Bool.false_and,Bool.false_and]
def Tq (w:World) (s:ByteArray) (a':Act) (W:World):Prop:=
 Below w.heap.size w W/\∃i f:Nat,(∃u:Nat->Value,a'= {tmps:= #[.string s,u 1,u 2,u 3,.string s,.int .i64 (s.size:Int),.int .i64 (i:Int),u 7,u 8,u 9,u 10,u 11,u 12,u 13,u 14,u 15,u 16,u 17,u 18,u 19,u 20,u 21,u 22],defers:= []})/\s.size<=i+f/\C3 s f i=C3 s s.size 0/\i<=s.size
theorem c_r18Name (s:ByteArray) (w:World) (hs9:s.size<=1000):Cb 131 #[.string s] w (.bool (Hf s)):=by
 go_enter Tryz.func131,Tryz.ntmps131
 go_wp2
 refine wp_loop (Tq w s) (fun a' _=>s.size-(Ak (a'.tmps.getD 6 undef)).toNat) ?_ ?_
 ·unfold Tq
  exact⟨Below.refl _ _,0,s.size,Ac rfl,by omega,rfl,by omega⟩
 ·rintro a' W ⟨hW,i,f,⟨u,rfl⟩,hf,hlet,hi⟩
  have hz:=hW.size
  rcases Nat.lt_or_ge i s.size with hlt|hge
  ·obtain⟨f,rfl⟩:∃g,f=g+1:=⟨f-1,by omega⟩
   rw[let_step s f i hlt] at hlet
   obtain⟨c,hc⟩:∃c,(s[i]'hlt).toNat=c:=⟨_,rfl⟩
   have hix:∀W,(Instr.index 9 (.string s) (.int .i64 (i:Int))).run Tryz.prog W= .ok (.int .u8 (c:Int)) W:=fun W=>by
    rw[run_index_string _ _ _ _ _ (by kernel_rfl),dif_pos (by omega)]
    simp only[Int.toNat_natCast,hc]
   rw[hc] at hlet
   have cl:=fun W=>Wp c W
   obtain⟨b,hb⟩:∃b,Eh c=b:=⟨_,rfl⟩
   rw[hb] at cl hlet
   clear hc hb
   replace cl:=Hd cl
   replace hlet:=Hd hlet
   cases b with
   |true=>
    go_wp2_with fail
    refine(cl.out _).mono ?_
    rintro e w5 ⟨rfl,hb5⟩
    go_wp2
    rw[show (i:Int)+1=((i+1:Nat):Int) by omega]
    refine⟨?_,by simp[Ak];omega⟩
    unfold Tq
    exact⟨hW.trans (hb5.mono hz),i+1,f,Ac rfl,by omega,by rw[<-hlet.out];rfl,by omega⟩
   |false=>
    have hno:=Hd (show Hf s=false by unfold Hf;rw[<-hlet.out];simp)
    go_wp2_with fail
    refine(cl.out _).mono ?_
    rintro e w5 ⟨rfl,hb5⟩
    go_wp2
    go_ret
    exact⟨by rw[hno.out];rfl,hW.trans (hb5.mono hz)⟩
  ·have hall:C3 s s.size 0=true:=by
    rw[<-hlet]
    cases f with
    |zero=>rfl
    |succ f=>simp[C3,Nat.not_lt.2 hge]
   clear hlet
   have hnm:Hf s=(decide (1<=(s.size:Int))&&decide ((s.size:Int)<=12)):=by
    unfold Hf
    rw[hall,Bool.and_true,Bool.eq_iff_iff]
    simp only[Bool.and_eq_true,decide_eq_true_eq]
    omega
   replace hnm:=Hd hnm
   clear hall
   go_upto_region 7 with(fail)
   refine Ad w (Bz) ?_
   clear hW
   rintro W21 hW z22 hL
   refine B3 9 23 hW hL ?_
   iterate 4 refine dA ?_
   iterate 3 refine gA ?_
   refine pA ?_
   refine dA ?_
   clear hW hL
   rintro W23 hW z24 hL
   simp only[ndR]
   intros
   repeat (rename Ao _ _ _ _=>hgd;clear hgd)
   simp only[ndS]
   refine wpList_nil ?_
   obtain⟨-⟩:=hL
   go_wp2
   refine bodyPost_ret (v:= .bool (decide (1<=(s.size:Int))&&decide ((s.size:Int)<=12))) (by simp[results,Tryz.results131,go_sem]) rfl ⟨by rw[hnm.out],by exact Aa⟩
theorem r24last_w (n:Nat) (z:Int) (L:List Int) (K1 A1 R1 m1 d1 E1:Int) (p1 q1:Option Addr) (n1 c1 l1 v1:Nat) (w:World) (hL:L.length=n+1) (hn:n<=300) (hz:L[n]? =some z) (h1:∀W,Below w.heap.size w W->Calls Tryz.prog 85 #[.slice p1 n1 c1] W fun e w'=>∃p k,e= .returned (.slice p (n+1) k)/\Au w' p L/\Below W.heap.size W w'):
  Cb 136 #[.agg #[K1,.slice p1 n1 c1,A1,R1,m1,d1,.slice q1 l1 v1,E1]] w (z):=by
 have E:=Hd (show wrap64 (n:Int)=(n:Int) by rw[Al];omega)
 have g0:¬((n:Int)<0):=by omega
 have g1:n<n+1:=by omega
 have g3:(n:Int)<(n:Int)+1:=by omega
 have H_h1:=Hd h1
 clear h1
 go_enter Tryz.func136,Tryz.ntmps136
 go_wp2_with fail
 refine(H_h1.out _ Aa).mono ?_
 rintro e w1 ⟨p,k,rfl,hI,hb1⟩
 have z2:=hb1.size
 try simp at z2
 refine Ae w w1 (Bc w.heap.size #[K1,.slice p1 n1 c1,A1,R1,m1,d1,.slice q1 l1 v1,E1] 98<|Bz) ?_
 rintro hW z3 ⟨⟨b1,yb1,k1,f1⟩,-⟩
 obtain⟨pb,po,rfl,-⟩:=hI.at' n z hz
 have b2:C8 w1 pb po L:=⟨hI⟩
 clear hI
 go_upto_region 2 with(fail)
 clear k1 f1
 refine Ad w (Bc w.heap.size #[K1,.slice p1 n1 c1,A1,R1,m1,d1,.slice q1 l1 v1,E1] 98<|Rc (fun W'=>C8 W' pb po L)<|Bz) ?_ (hI:=by exact Aa) (hR:=(Bc.mk (by exact Ab)<|Rc.mk (by first|exact b2|exact b2.below (by assumption)|exact b2.below Aa)<|trivial))
 clear b1 b2 hW
 rintro W4 hW z5 hL
 obtain⟨⟨b1,yb1,k1,f1⟩,b2,-⟩:=id hL
 clear k1 f1
 refine B3 7 13 hW hL ?_
 iterate 7 refine dE (fun W' hC=>aI (hC.2.2.1.cellAt hz) (aI E.out (aI g0 (aI g1 (aI g3 (Nat.not_le.2 g1)))))) ?_
 clear hW hL b1 b2
 rintro W6 hW z7 hL
 simp only[ndR]
 intros
 simp only[ndS]
 refine wpList_nil ?_
 obtain⟨⟨b1,yb1,k1,f1⟩,b2,-⟩:=hL
 go_wp2
 refine bodyPost_ret (by simp[results,Tryz.results136,go_sem,k1,f1,yb1]) rfl ⟨rfl,by exact Aa⟩
theorem Vi (n:Nat) (z:Int) (L:List Int) (r:Ah) (M:List Ah) (rb ro:Nat) (K1 A1 R1 m1 d1 E1:Int) (p1 q1:Option Addr) (n1 c1 l1 v1:Nat) (K2 A2 R2 m2 d2 E2:Int) (q2:Option Addr) (n2 c2 l2 v2:Nat) (w:World) (hL:L.length=n+1) (hn:n<=300) (hz:L[n]? =some z) (hM:Eb w rb ro M) (hr:M[0]? =some r) (g2:0<n2) (h1:∀W,Below w.heap.size w W->Calls Tryz.prog 85 #[.slice p1 n1 c1] W fun e w'=>∃p k,e= .returned (.slice p (n+1) k)/\Au w' p L/\Below W.heap.size W w'):
  Cb 175 #[.agg #[K1,.slice p1 n1 c1,A1,R1,m1,d1,.slice q1 l1 v1,E1],.agg #[K2,.slice (some ⟨rb,ro,none⟩) n2 c2,A2,R2,m2,d2,.slice q2 l2 v2,E2]] w (.bool (decide (z<r.f))):=by
 have E:=Hd (show wrap64 (n:Int)=(n:Int) by rw[Al];omega)
 have g0:¬((n:Int)<0):=by omega
 have g1:n<n+1:=by omega
 have g3:(n:Int)<(n:Int)+1:=by omega
 have H_h1:=Hd h1
 clear h1
 go_enter Tryz.func175,Tryz.ntmps175
 go_wp2_with fail
 refine(H_h1.out _ Aa).mono ?_
 rintro e w1 ⟨p,k,rfl,hI,hb1⟩
 have z2:=hb1.size
 try simp at z2
 refine Ae w w1 (Bc w.heap.size #[K1,.slice p1 n1 c1,A1,R1,m1,d1,.slice q1 l1 v1,E1] 98<|Bc (w.heap.size+1) #[K2,.slice (some ⟨rb,ro,none⟩) n2 c2,A2,R2,m2,d2,.slice q2 l2 v2,E2] 98<|Bz) ?_
 rintro hW z3 ⟨⟨b1,yb1,k1,f1⟩,⟨b2,yb2,k2,f2⟩,-⟩
 obtain⟨pb,po,rfl,-⟩:=hI.at' n z hz
 have b3:C8 w1 pb po L:=⟨hI⟩
 clear hI
 have b4:Eb w1 rb ro M:=hM.below hW
 go_upto_region 2 with(fail)
 clear k1 f1 k2 f2
 refine Ad w (Bc w.heap.size #[K1,.slice p1 n1 c1,A1,R1,m1,d1,.slice q1 l1 v1,E1] 98<|Bc (w.heap.size+1) #[K2,.slice (some ⟨rb,ro,none⟩) n2 c2,A2,R2,m2,d2,.slice q2 l2 v2,E2] 98<|Rc (fun W'=>C8 W' pb po L)<|Rc (fun W'=>Eb W' rb ro M)<|Bz) ?_ (hI:=by exact Aa) (hR:=(Bc.mk (by exact Ab)<|Bc.mk (by exact Ab)<|Rc.mk (by first|exact b3|exact b3.below (by assumption)|exact b3.below Aa)<|Rc.mk (by first|exact b4|exact b4.below (by assumption)|exact b4.below Aa)<|trivial))
 clear b1 b2 b3 b4 hW
 rintro W4 hW z5 hL
 obtain⟨⟨b1,yb1,k1,f1⟩,⟨b2,yb2,k2,f2⟩,b3,b4,-⟩:=id hL
 clear k1 f1 k2 f2
 refine C2 13 21 hW hL ?_
 iterate 13 refine dE (fun W' hC=>aI (hC.2.2.2.1.cellAt hz) (aI ((hC.2.2.2.2.1.cellAt hr).1) (aI E.out (aI g0 (aI g1 (aI g3 (aI (Nat.not_le.2 g1) (aI g2 (Nat.not_le.2 g2))))))))) ?_
 clear hW hL b1 b2 b3 b4
 rintro W6 hW z7 hL
 simp only[ndR]
 intros
 simp only[ndS]
 refine wpList_nil ?_
 obtain⟨⟨b1,yb1,k1,f1⟩,⟨b2,yb2,k2,f2⟩,b3,b4,-⟩:=hL
 go_wp2
 refine bodyPost_ret (by simp[results,Tryz.results175,go_sem,k1,f1,k2,f2,yb1,yb2]) rfl ⟨rfl,by exact Aa⟩
theorem L8 (s:A4) (p q:Option Addr) (cap:Nat) (w:World) (h:C7 w s p q) (hs:C1 s=true):
  ∃n,(Af s.runs).length=n+1/\n<=300/\(Af s.runs)[n]? =some (Cy s.runs)/\∀W,Below w.heap.size w W->Calls Tryz.prog 85 #[.slice p s.runs.length cap] W fun e w'=>∃p k,e= .returned (.slice p (n+1) k)/\Au w' p (Af s.runs)/\Below W.heap.size W w':=by
 have hr:=By hs
 have h1:=B7 hr
 have h2:=D6 hr
 refine⟨(Af s.runs).length-1,by omega,by omega,?_,fun W hW=> ?_⟩
 ·have:=Lk hr (k:=(Af s.runs).length-1) (by omega)
  rw[this]
  unfold Cy
  rw[show (((Af s.runs).length-1:Nat):Int)=cnt s.runs-1 by omega]
 ·refine(M2 (cap:=cap) hr h.runs h.fewR W hW).mono ?_
  rintro e w' ⟨v,rfl,hv,hB⟩
  obtain⟨p1,k1,rfl,-⟩:=hv.form
  rw[show (Af s.runs).length-1+1=(Af s.runs).length by omega]
  exact⟨p1,k1,rfl,hv.ints,hB⟩
theorem c_r24last (s:A4) (p q:Option Addr) (cap vc:Nat) (w:World) (h:C7 w s p q) (hs:C1 s=true):
  Cb 136 #[.agg (Dh s p q cap vc)] w (.int .i64 (Cy s.runs)):=by
 obtain⟨n,a1,a2,a3,a4⟩:=L8 s p q cap w h hs
 exact r24last_w n _ _ _ _ _ _ _ _ _ _ _ _ _ _ w a1 a2 a3 a4
theorem Wq (s x:A4) (p q p' q':Option Addr) (cap vc cap' vc':Nat) (w:World) (h:C7 w s p q) (hs:C1 s=true) (h':C7 w x p' q') (hx:C1 x=true):
  Cb 175 #[.agg (Dh s p q cap vc),.agg (Dh x p' q' cap' vc')] w (.bool (decide (Cy s.runs<Bm x.runs))):=by
 obtain⟨n,a1,a2,a3,a4⟩:=L8 s p q cap w h hs
 have hr:=By hx
 cases hl:x.runs with
 |nil=>have:=hr.some';rw[hl] at this;simp at this
 |cons r l=>
  have e:Bm (r::l)=r.f:=So (by rw[<-hl];exact hr)
  have h0:=h'.runs
  rw[hl] at h0
  obtain⟨rb,ro,rfl,-⟩:=h0.at' 0 r rfl
  rw[e]
  have:=Vi n _ _ r (r::l) rb ro s.K s.A s.R s.n s.d s.E p q s.runs.length cap s.raw.length vc x.K x.A x.R x.n x.d x.E q' (r::l).length cap' x.raw.length vc' w a1 a2 a3 ⟨h0⟩ rfl (by simp) a4
  unfold Dh
  rw[hl]
  exact this
theorem c_spTwoL (a b c d:Int) (w:World):Cb 90 #[.agg #[.int .i64 a,.int .i64 b],.agg #[.int .i64 c,.int .i64 d]] w (.agg #[.int .i64 (mn a c),.int .i64 (mn b d)]):=by
 have hm:∀ts t x y w,(Builtin.min_ ts t #[.int .i64 x,.int .i64 y]).run Tryz.prog w= .ok (.int .i64 (mn x y)) w:=fun ts t x y w=>by simp[Builtin.min_,Builtin.min2,mn]
 go_enter Tryz.func90,Tryz.ntmps90
 go_wp2
 refine bodyPost_ret (v:= .agg #[.int .i64 (mn a c),.int .i64 (mn b d)]) (by simp[results,Tryz.results90,go_sem]) rfl ⟨rfl,by exact Aa⟩
theorem c_spTwoM (a b c d:Int) (w:World):Cb 91 #[.agg #[.int .i64 a,.int .i64 b],.agg #[.int .i64 c,.int .i64 d]] w (.agg #[.int .i64 (mx a c),.int .i64 (mx b d)]):=by
 have hm:∀ts t x y w,(Builtin.max_ ts t #[.int .i64 x,.int .i64 y]).run Tryz.prog w= .ok (.int .i64 (mx x y)) w:=fun ts t x y w=>by simp[Builtin.max_,Builtin.max2,mx]
 go_enter Tryz.func91,Tryz.ntmps91
 go_wp2
 refine bodyPost_ret (v:= .agg #[.int .i64 (mx a c),.int .i64 (mx b d)]) (by simp[results,Tryz.results91,go_sem]) rfl ⟨rfl,by exact Aa⟩
theorem Sg {l:List Int} (h:l≠ []) (x:Int):Bh (l++ [x])=mn (Bh l) x:=by
 cases l with
 |nil=>exact absurd rfl h
 |cons y l=>simp[Bh,List.foldl_append]
theorem Y2 {l:List (Int×Int)} {i:Nat} {x y:Int} (h:l[i]? =some (x,y)):
  (i=0->Bh ((l.take (0+1)).map (·.1))=x/\Bh ((l.take (0+1)).map (·.2))=y)/\(0<i->Bh ((l.take (i+1)).map (·.1))=mn (Bh ((l.take i).map (·.1))) x/\Bh ((l.take (i+1)).map (·.2))=mn (Bh ((l.take i).map (·.2))) y):=by
 have hlt:=(List.getElem?_eq_some_iff.1 h).1
 constructor
 ·rintro rfl
  cases l with
  |nil=>simp at h
  |cons z l=>simp at h;subst h;simp[Bh]
 ·intro hi
  have hne:∀f:Int×Int->Int,(l.take i).map f≠ []:=fun f e=>by have:=congrArg List.length e;rw[List.length_map,List.length_take] at this;simp only[List.length_nil] at this;omega
  rw[List.take_add_one,h]
  simp only[Option.toList_some,List.map_append,List.map_cons,List.map_nil]
  exact⟨Sg (hne _) x,Sg (hne _) y⟩
theorem Sh {l:List Int} (h:l≠ []) (x:Int):Bi (l++ [x])=mx (Bi l) x:=by
 cases l with
 |nil=>exact absurd rfl h
 |cons y l=>simp[Bi,List.foldl_append]
theorem Y1 {l:List (Int×Int)} {i:Nat} {x y:Int} (h:l[i]? =some (x,y)):
  (i=0->Bi ((l.take (0+1)).map (·.1))=x/\Bi ((l.take (0+1)).map (·.2))=y)/\(0<i->Bi ((l.take (i+1)).map (·.1))=mx (Bi ((l.take i).map (·.1))) x/\Bi ((l.take (i+1)).map (·.2))=mx (Bi ((l.take i).map (·.2))) y):=by
 have hlt:=(List.getElem?_eq_some_iff.1 h).1
 constructor
 ·rintro rfl
  cases l with
  |nil=>simp at h
  |cons z l=>simp at h;subst h;simp[Bi]
 ·intro hi
  have hne:∀f:Int×Int->Int,(l.take i).map f≠ []:=fun f e=>by have:=congrArg List.length e;rw[List.length_map,List.length_take] at this;simp only[List.length_nil] at this;omega
  rw[List.take_add_one,h]
  simp only[Option.toList_some,List.map_append,List.map_cons,List.map_nil]
  exact⟨Sh (hne _) x,Sh (hne _) y⟩
def T9 (w:World) (p:Option Addr) (cap:Nat) (l:List (Int×Int)) (a':Act) (W:World):Prop:=
 Below w.heap.size w W/\Blk W w.heap.size #[.int .i64 0,.int .i64 0] 169/\∃i:Nat,Blk W (w.heap.size+1) #[.int .i64 (Bh ((l.take i).map (·.1))),.int .i64 (Bh ((l.take i).map (·.2)))] 169/\(∃u:Nat->Value,a'= {tmps:= #[.slice p l.length cap,.func (.func 90) #[] #[],u 2,u 3,.pointer (some ⟨w.heap.size,0,none⟩),u 5,.pointer (some ⟨w.heap.size+1,0,none⟩),u 7,u 8,.slice p l.length cap,.int .i64 (l.length:Int),.int .i64 (i:Int),u 12,u 13,u 14,u 15,u 16,u 17,u 18,u 19,u 20,u 21,u 22,u 23,u 24,u 25,u 26,u 27],defers:= []})/\i<=l.length
theorem c_spFoldL (p:Option Addr) (cap:Nat) (l:List (Int×Int)) (w:World) (hlen:l.length<=1000000) (hpos:0<l.length) (h:Bv w p l):
  Cb 147 #[.slice p l.length cap,.func (.func 90) #[] #[]] w (.tuple #[.agg #[.int .i64 (Bh (l.map (·.1))),.int .i64 (Bh (l.map (·.2)))],.bool true]):=by
 go_enter Tryz.func147,Tryz.ntmps147
 go_wp2
 refine wp_loop (T9 w p cap l) (fun a' _=>l.length-(Ak (a'.tmps.getD 11 undef)).toNat) ?_ ?_
 ·unfold T9
  exact⟨Aa,Ab,0,Ab,Ac rfl,Nat.zero_le _⟩
 ·rintro a' W ⟨hW0,b1,i,b2,⟨u,rfl⟩,hi'⟩
  have hz:=hW0.size
  have zb1:=b1.lt
  have zb2:=b2.lt
  rcases Nat.lt_or_ge i l.length with hlt|hge
  ·obtain⟨⟨x,y⟩,tr⟩:∃r,l[i]? =some r:=⟨l[i]'(by omega),List.getElem?_eq_getElem (by omega)⟩
   obtain⟨b,o,rfl,q0,q1⟩:=(h.below hW0).at' i _ tr
   simp only at q0 q1
   have hst:=Y2 tr
   rcases Nat.eq_zero_or_pos i with rfl|hi0
   ·obtain⟨m,hm⟩:∃m,Bh ((l.take 0).map (·.1))=m:=⟨_,rfl⟩
    obtain⟨n,hn⟩:∃n,Bh ((l.take 0).map (·.2))=n:=⟨_,rfl⟩
    rw[hm,hn] at b2
    replace hst:=Hd (hst.1 rfl)
    clear hm hn tr
    simp only[Nat.zero_mul,Nat.add_zero] at q0 q1
    rw[show ((0:Nat):Int)=0 from rfl]
    have k1:=b1.cell
    have f1:=b1.frozen
    have k2:=b2.cell
    have f2:=b2.frozen
    go_wp2
    refine⟨?_,by simp[Ak];omega⟩
    unfold T9
    exact⟨hW0.trans Aa,Ab,1,by rw[hst.out.1,hst.out.2];exact Ab,Ac rfl,by omega⟩
   ·have hst:=hst.2 hi0
    obtain⟨m,hm⟩:∃m,Bh ((l.take i).map (·.1))=m:=⟨_,rfl⟩
    obtain⟨n,hn⟩:∃n,Bh ((l.take i).map (·.2))=n:=⟨_,rfl⟩
    rw[hm,hn] at b2 hst
    replace hst:=Hd hst
    have hne:((i:Int)==0)=false:=by simp;omega
    clear hm hn tr
    have k1:=b1.cell
    have f1:=b1.frozen
    have k2:=b2.cell
    have f2:=b2.frozen
    go_wp2_with fail
    refine(c_spTwoL m n x y _).mono ?_
    rintro e w21 ⟨rfl,hb21⟩
    have z22:=hb21.size
    try simp at z22
    clear k1 f1 k2 f2
    refine Ae W w21 (Bc w.heap.size #[.int .i64 0,.int .i64 0] 169<|Bc (w.heap.size+1) #[.int .i64 m,.int .i64 n] 169<|Bc W.heap.size #[.int .i64 x,.int .i64 y] 169<|Bz) ?_
    clear b1 b2
    rintro hW z23 ⟨⟨b1,yb1,k1,f1⟩,⟨b2,yb2,k2,f2⟩,⟨b3,yb3,k3,f3⟩,-⟩
    clear hb21
    go_wp2
    rw[show (i:Int)+1=((i+1:Nat):Int) by omega]
    refine⟨?_,by simp[Ak];omega⟩
    unfold T9
    exact⟨hW0.trans Aa,Ab,i+1,by rw[hst.out.1,hst.out.2];exact Ab,Ac rfl,by omega⟩
  ·obtain rfl:i=l.length:=by omega
   rw[List.take_length] at b2
   have k1:=b1.cell
   have f1:=b1.frozen
   have k2:=b2.cell
   have f2:=b2.frozen
   have hgt:decide ((0:Int)<(l.length:Int))=true:=by simp;omega
   go_wp2
   have y1:=b1.lt
   have y2:=b2.lt
   refine bodyPost_ret (v:= .tuple #[.agg #[.int .i64 (Bh (l.map (·.1))),.int .i64 (Bh (l.map (·.2)))],.bool true]) (by simp[results,Tryz.results147,go_sem,k1,f1,k2,f2,y1,y2,hgt]) rfl ⟨rfl,?_⟩
   exact hW0.trans Aa
def T8 (w:World) (p:Option Addr) (cap:Nat) (l:List (Int×Int)) (a':Act) (W:World):Prop:=
 Below w.heap.size w W/\Blk W w.heap.size #[.int .i64 0,.int .i64 0] 169/\∃i:Nat,Blk W (w.heap.size+1) #[.int .i64 (Bi ((l.take i).map (·.1))),.int .i64 (Bi ((l.take i).map (·.2)))] 169/\(∃u:Nat->Value,a'= {tmps:= #[.slice p l.length cap,.func (.func 91) #[] #[],u 2,u 3,.pointer (some ⟨w.heap.size,0,none⟩),u 5,.pointer (some ⟨w.heap.size+1,0,none⟩),u 7,u 8,.slice p l.length cap,.int .i64 (l.length:Int),.int .i64 (i:Int),u 12,u 13,u 14,u 15,u 16,u 17,u 18,u 19,u 20,u 21,u 22,u 23,u 24,u 25,u 26,u 27],defers:= []})/\i<=l.length
theorem c_spFoldM (p:Option Addr) (cap:Nat) (l:List (Int×Int)) (w:World) (hlen:l.length<=1000000) (hpos:0<l.length) (h:Bv w p l):
  Cb 147 #[.slice p l.length cap,.func (.func 91) #[] #[]] w (.tuple #[.agg #[.int .i64 (Bi (l.map (·.1))),.int .i64 (Bi (l.map (·.2)))],.bool true]):=by
 go_enter Tryz.func147,Tryz.ntmps147
 go_wp2
 refine wp_loop (T8 w p cap l) (fun a' _=>l.length-(Ak (a'.tmps.getD 11 undef)).toNat) ?_ ?_
 ·unfold T8
  exact⟨Aa,Ab,0,Ab,Ac rfl,Nat.zero_le _⟩
 ·rintro a' W ⟨hW0,b1,i,b2,⟨u,rfl⟩,hi'⟩
  have hz:=hW0.size
  have zb1:=b1.lt
  have zb2:=b2.lt
  rcases Nat.lt_or_ge i l.length with hlt|hge
  ·obtain⟨⟨x,y⟩,tr⟩:∃r,l[i]? =some r:=⟨l[i]'(by omega),List.getElem?_eq_getElem (by omega)⟩
   obtain⟨b,o,rfl,q0,q1⟩:=(h.below hW0).at' i _ tr
   simp only at q0 q1
   have hst:=Y1 tr
   rcases Nat.eq_zero_or_pos i with rfl|hi0
   ·obtain⟨m,hm⟩:∃m,Bi ((l.take 0).map (·.1))=m:=⟨_,rfl⟩
    obtain⟨n,hn⟩:∃n,Bi ((l.take 0).map (·.2))=n:=⟨_,rfl⟩
    rw[hm,hn] at b2
    replace hst:=Hd (hst.1 rfl)
    clear hm hn tr
    simp only[Nat.zero_mul,Nat.add_zero] at q0 q1
    rw[show ((0:Nat):Int)=0 from rfl]
    have k1:=b1.cell
    have f1:=b1.frozen
    have k2:=b2.cell
    have f2:=b2.frozen
    go_wp2
    refine⟨?_,by simp[Ak];omega⟩
    unfold T8
    exact⟨hW0.trans Aa,Ab,1,by rw[hst.out.1,hst.out.2];exact Ab,Ac rfl,by omega⟩
   ·have hst:=hst.2 hi0
    obtain⟨m,hm⟩:∃m,Bi ((l.take i).map (·.1))=m:=⟨_,rfl⟩
    obtain⟨n,hn⟩:∃n,Bi ((l.take i).map (·.2))=n:=⟨_,rfl⟩
    rw[hm,hn] at b2 hst
    replace hst:=Hd hst
    have hne:((i:Int)==0)=false:=by simp;omega
    clear hm hn tr
    have k1:=b1.cell
    have f1:=b1.frozen
    have k2:=b2.cell
    have f2:=b2.frozen
    go_wp2_with fail
    refine(c_spTwoM m n x y _).mono ?_
    rintro e w21 ⟨rfl,hb21⟩
    have z22:=hb21.size
    try simp at z22
    clear k1 f1 k2 f2
    refine Ae W w21 (Bc w.heap.size #[.int .i64 0,.int .i64 0] 169<|Bc (w.heap.size+1) #[.int .i64 m,.int .i64 n] 169<|Bc W.heap.size #[.int .i64 x,.int .i64 y] 169<|Bz) ?_
    clear b1 b2
    rintro hW z23 ⟨⟨b1,yb1,k1,f1⟩,⟨b2,yb2,k2,f2⟩,⟨b3,yb3,k3,f3⟩,-⟩
    clear hb21
    go_wp2
    rw[show (i:Int)+1=((i+1:Nat):Int) by omega]
    refine⟨?_,by simp[Ak];omega⟩
    unfold T8
    exact⟨hW0.trans Aa,Ab,i+1,by rw[hst.out.1,hst.out.2];exact Ab,Ac rfl,by omega⟩
  ·obtain rfl:i=l.length:=by omega
   rw[List.take_length] at b2
   have k1:=b1.cell
   have f1:=b1.frozen
   have k2:=b2.cell
   have f2:=b2.frozen
   have hgt:decide ((0:Int)<(l.length:Int))=true:=by simp;omega
   go_wp2
   have y1:=b1.lt
   have y2:=b2.lt
   refine bodyPost_ret (v:= .tuple #[.agg #[.int .i64 (Bi (l.map (·.1))),.int .i64 (Bi (l.map (·.2)))],.bool true]) (by simp[results,Tryz.results147,go_sem,k1,f1,k2,f2,y1,y2,hgt]) rfl ⟨rfl,?_⟩
   exact hW0.trans Aa
theorem Tryz.infoEnds :(Tryz.prog.info? 169).map (fun i=>(i.zero,i.size,i.bytes))=some (some (.agg #[.int .i64 0,.int .i64 0]),2,16):=by kernel_rfl
theorem c_spOf (a b:Int) (w:World):Cb 146 #[.agg #[.int .i64 a,.int .i64 b]] w (.agg #[.int .i64 a,.int .i64 b]):=by
 go_enter Tryz.func146,Tryz.ntmps146
 go_wp2
 refine bodyPost_ret (v:= .agg #[.int .i64 a,.int .i64 b]) (by simp[results,Tryz.results146,go_sem]) rfl ⟨rfl,by exact Aa⟩
theorem Le (a b:Int) (w:World):Cb 95 #[.agg #[.int .i64 a,.int .i64 b]] w (.agg #[.int .i64 a,.int .i64 b]):=by
 go_enter Tryz.func95,Tryz.ntmps95
 go_wp2
 refine bodyPost_ret (v:= .agg #[.int .i64 a,.int .i64 b]) (by simp[results,Tryz.results95,go_sem]) rfl ⟨rfl,by exact Aa⟩
theorem Bp.ptsS {w:World} {B n:Nat} {t:TypeId} {v:Value} {l:List (Int×Int)} (h:Bp w B t 2 v n (B8 l)) (hn:0<n):∃g cp,v= .slice (some ⟨g,0,none⟩) n cp/\Bv w (some ⟨g,0,none⟩) l:=by
 rcases h.own.2 with⟨_,h0⟩|⟨g,cap,cur,rfl,_,hb,_,_,_,ht⟩
 ·omega
 ·exact⟨g,cap,rfl,J5 hb ht⟩
def Xt (w:World) (p:Option Addr) (cap:Nat) (l:List (Int×Int)) (a':Act) (W:World):Prop:=
 Below w.heap.size w W/\Blk W w.heap.size #[.int .i64 0,.int .i64 0] 33/\∃(i:Nat) (v:Value),Bp W w.heap.size 169 2 v i (B8 (l.take i))/\(∃u:Nat->Value,a'= {tmps:= #[.slice p l.length cap,.func (.func 90) #[] #[],u 2,u 3,.pointer (some ⟨w.heap.size,0,none⟩),u 5,u 6,v,u 8,u 9,u 10,u 11,u 12,u 13,u 14,u 15,u 16,u 17,u 18,.slice p l.length cap,.int .i64 (l.length:Int),.int .i64 (i:Int),u 22,u 23,u 24,u 25,u 26,u 27,u 28,u 29,u 30,u 31,u 32,u 33,u 34,u 35,u 36,u 37,u 38,u 39,u 40,u 41,u 42,u 43,u 44,u 45,u 46],defers:= []})/\i<=l.length
theorem togL_w (p:Option Addr) (cap:Nat) (l:List (Int×Int)) (w:World) (hlen:l.length<=1000000) (hpos:0<l.length) (h:Bv w p l)
  (c1:∀W,Below w.heap.size w W->Cb 92 #[.slice p l.length cap] W (.int .i64 0))
  (c2:∀W g cp,Bv W (some ⟨g,0,none⟩) l->Cb 147 #[.slice (some ⟨g,0,none⟩) l.length cp,.func (.func 90) #[] #[]] W (.tuple #[.agg #[.int .i64 (Bh (l.map (·.1))),.int .i64 (Bh (l.map (·.2)))],.bool true]))
  (c3:∀W,Cb 96 #[.agg #[.int .i64 (Bh (l.map (·.1))),.int .i64 (Bh (l.map (·.2)))]] W (.int .i64 0)):
  Cb 89 #[.slice p l.length cap,.func (.func 90) #[] #[]] w (.tuple #[.agg #[.int .i64 (Bh (l.map (·.1))),.int .i64 (Bh (l.map (·.2)))],.int .i64 0]):=by
 obtain⟨i0,hi,hz0,hz1,hz2⟩:=info_parts Tryz.infoEnds
 replace c2:=Hd c2
 replace c3:=Hd c3
 have H_c1:=Hd c1
 clear c1
 go_enter Tryz.func89,Tryz.ntmps89
 go_wp2_with fail
 refine(H_c1.out _ Aa).mono ?_
 rintro e w1 ⟨rfl,hb1⟩
 have z2:=hb1.size
 try simp at z2
 refine Ae w w1 (Bc w.heap.size #[.int .i64 0,.int .i64 0] 33<|Bz) ?_
 rintro hW z3 ⟨⟨b1,yb1,k1,f1⟩,-⟩
 clear hb1
 have hWW:=hW
 go_wp2
 refine wp_loop (Xt w p cap l) (fun a' _=>l.length-(Ak (a'.tmps.getD 21 undef)).toNat) ?_ ?_
 ·unfold Xt
  exact⟨hW,b1,0,_,Bp.nil _ _ _ _,Ac rfl,Nat.zero_le _⟩
 ·rintro a' W ⟨hW0,b1,i,v,hown,⟨u,rfl⟩,hi'⟩
  have hz:=hW0.size
  have zb1:=b1.lt
  rcases Nat.lt_or_ge i l.length with hlt|hge
  ·obtain⟨⟨x,y⟩,tr⟩:∃r,l[i]? =some r:=⟨l[i]'(by omega),List.getElem?_eq_getElem (by omega)⟩
   obtain⟨b,o,rfl,q0,q1⟩:=(h.below hW0).at' i _ tr
   simp only at q0 q1
   have htk:=Hd (show B8 (l.take (i+1))=B8 (l.take i)++ [.int .i64 x,.int .i64 y] by rw[List.take_add_one,tr];exact G4 _ _)
   clear tr
   have k1:=b1.cell
   have f1:=b1.frozen
   have cb:=Hd (c_spOf x y)
   go_wp2_with fail
   refine(cb.out _).mono ?_
   rintro e w21 ⟨rfl,hb21⟩
   have z22:=hb21.size
   try simp at z22
   clear k1 f1
   refine Ae W w21 (Bc w.heap.size #[.int .i64 0,.int .i64 0] 33<|Bc W.heap.size #[.int .i64 x,.int .i64 y] 33<|Bz) ?_
   clear b1
   rintro hW z23 ⟨⟨b1,yb1,k1,f1⟩,⟨b2,yb2,k2,f2⟩,-⟩
   clear hb21
   have hown':=(hown.below hW).own
   have hW9:=hW0.trans (hW.mono hz)
   have ya9:=hW9.size
   clear cb hown hW
   go_wp2_with (at_builtin;refine wpList_append_own _ rfl (.tmp 25) (.tmp 28) 232 rfl w.heap.size 169 i0 (.agg #[.int .i64 0,.int .i64 0]) 2 16 (by kernel_rfl) hi hz0 hz1 hz2 rfl (by decide) _ _ _ rfl (hown'.alloc _) ⟨w21.heap.size,0,none⟩ 1 1 [.int .i64 x,.int .i64 y] rfl rfl (G6 _ _ _ _) (by simp[Value.oneCell']) (by simp[maxLen];omega) (by omega) (by simp;omega) ?_)
   intro v' w9 hown2 hgr _
   have hB:=Hd (A5 hW9 ya9 hown' hgr)
   have b9:=b1.grown hown' (by decide) hgr
   replace hown2:=Hd hown2
   clear hgr hown' b1 b2 k1 f1
   go_wp2
   rw[show (i:Int)+1=((i+1:Nat):Int) by omega]
   refine⟨?_,by simp[Ak];omega⟩
   unfold Xt
   exact⟨hB.out,b9,i+1,v',⟨by rw[htk.out];simpa using hown2.out⟩,Ac rfl,by omega⟩
  ·obtain rfl:i=l.length:=by omega
   rw[List.take_length] at hown
   obtain⟨g0,cp0,rfl,hP⟩:=hown.ptsS (by omega)
   replace hP:=Hd hP
   replace c2:=c2.out
   replace c3:=c3.out
   obtain⟨m,hm⟩:∃m,Bh (l.map (·.1))=m:=⟨_,rfl⟩
   obtain⟨n,hn⟩:∃n,Bh (l.map (·.2))=n:=⟨_,rfl⟩
   rw[hm,hn] at c2 c3
   replace hm:=Hd hm
   replace hn:=Hd hn
   clear hown
   have k1:=b1.cell
   have f1:=b1.frozen
   have hW:Below w.heap.size w W:=hW0
   have H_c2:=Hd c2
   have H_c3:=Hd c3
   clear c2 c3
   go_wp2_with fail
   refine(H_c2.out _ g0 cp0 hP.out).mono ?_
   rintro e w51 ⟨rfl,hb51⟩
   have z52:=hb51.size
   try simp at z52
   clear k1 f1
   refine Ae w w51 (Bc w.heap.size #[.int .i64 0,.int .i64 0] 33<|Bz) ?_
   clear b1 hW
   rintro hW z53 ⟨⟨b1,yb1,k1,f1⟩,-⟩
   clear hb51
   go_wp2_with fail
   refine(Le m n _).mono ?_
   rintro e w54 ⟨rfl,hb54⟩
   have z55:=hb54.size
   try simp at z55
   clear k1 f1
   refine Ae w w54 (Bc w.heap.size #[.int .i64 0,.int .i64 0] 33<|Bc w51.heap.size #[.int .i64 m,.int .i64 n] 169<|Bz) ?_
   clear b1 hW
   rintro hW z56 ⟨⟨b1,yb1,k1,f1⟩,⟨b2,yb2,k2,f2⟩,-⟩
   clear hb54
   go_wp2_with fail
   refine(H_c3.out _).mono ?_
   rintro e w57 ⟨rfl,hb57⟩
   have z58:=hb57.size
   try simp at z58
   clear k1 f1 k2 f2
   refine Ae w w57 (Bc w.heap.size #[.int .i64 0,.int .i64 0] 33<|Bc w51.heap.size #[.int .i64 m,.int .i64 n] 169<|Bc w54.heap.size #[.int .i64 m,.int .i64 n] 33<|Bz) ?_
   clear b1 b2 hW
   rintro hW z59 ⟨⟨b1,yb1,k1,f1⟩,⟨b2,yb2,k2,f2⟩,⟨b3,yb3,k3,f3⟩,-⟩
   clear hb57
   go_wp2
   have y1:=b1.lt
   refine bodyPost_ret (v:= .tuple #[.agg #[.int .i64 m,.int .i64 n],.int .i64 0]) (by simp[results,Tryz.results89,go_sem,k1,f1,y1]) rfl ⟨by rw[hm.out,hn.out],Aa⟩
def Xs (w:World) (p:Option Addr) (cap:Nat) (l:List (Int×Int)) (a':Act) (W:World):Prop:=
 Below w.heap.size w W/\Blk W w.heap.size #[.int .i64 0,.int .i64 0] 33/\∃(i:Nat) (v:Value),Bp W w.heap.size 169 2 v i (B8 (l.take i))/\(∃u:Nat->Value,a'= {tmps:= #[.slice p l.length cap,.func (.func 91) #[] #[],u 2,u 3,.pointer (some ⟨w.heap.size,0,none⟩),u 5,u 6,v,u 8,u 9,u 10,u 11,u 12,u 13,u 14,u 15,u 16,u 17,u 18,.slice p l.length cap,.int .i64 (l.length:Int),.int .i64 (i:Int),u 22,u 23,u 24,u 25,u 26,u 27,u 28,u 29,u 30,u 31,u 32,u 33,u 34,u 35,u 36,u 37,u 38,u 39,u 40,u 41,u 42,u 43,u 44,u 45,u 46],defers:= []})/\i<=l.length
theorem togM_w (p:Option Addr) (cap:Nat) (l:List (Int×Int)) (w:World) (hlen:l.length<=1000000) (hpos:0<l.length) (h:Bv w p l)
  (c1:∀W,Below w.heap.size w W->Cb 92 #[.slice p l.length cap] W (.int .i64 0))
  (c2:∀W g cp,Bv W (some ⟨g,0,none⟩) l->Cb 147 #[.slice (some ⟨g,0,none⟩) l.length cp,.func (.func 91) #[] #[]] W (.tuple #[.agg #[.int .i64 (Bi (l.map (·.1))),.int .i64 (Bi (l.map (·.2)))],.bool true]))
  (c3:∀W,Cb 96 #[.agg #[.int .i64 (Bi (l.map (·.1))),.int .i64 (Bi (l.map (·.2)))]] W (.int .i64 0)):
  Cb 89 #[.slice p l.length cap,.func (.func 91) #[] #[]] w (.tuple #[.agg #[.int .i64 (Bi (l.map (·.1))),.int .i64 (Bi (l.map (·.2)))],.int .i64 0]):=by
 obtain⟨i0,hi,hz0,hz1,hz2⟩:=info_parts Tryz.infoEnds
 replace c2:=Hd c2
 replace c3:=Hd c3
 have H_c1:=Hd c1
 clear c1
 go_enter Tryz.func89,Tryz.ntmps89
 go_wp2_with fail
 refine(H_c1.out _ Aa).mono ?_
 rintro e w1 ⟨rfl,hb1⟩
 have z2:=hb1.size
 try simp at z2
 refine Ae w w1 (Bc w.heap.size #[.int .i64 0,.int .i64 0] 33<|Bz) ?_
 rintro hW z3 ⟨⟨b1,yb1,k1,f1⟩,-⟩
 clear hb1
 have hWW:=hW
 go_wp2
 refine wp_loop (Xs w p cap l) (fun a' _=>l.length-(Ak (a'.tmps.getD 21 undef)).toNat) ?_ ?_
 ·unfold Xs
  exact⟨hW,b1,0,_,Bp.nil _ _ _ _,Ac rfl,Nat.zero_le _⟩
 ·rintro a' W ⟨hW0,b1,i,v,hown,⟨u,rfl⟩,hi'⟩
  have hz:=hW0.size
  have zb1:=b1.lt
  rcases Nat.lt_or_ge i l.length with hlt|hge
  ·obtain⟨⟨x,y⟩,tr⟩:∃r,l[i]? =some r:=⟨l[i]'(by omega),List.getElem?_eq_getElem (by omega)⟩
   obtain⟨b,o,rfl,q0,q1⟩:=(h.below hW0).at' i _ tr
   simp only at q0 q1
   have htk:=Hd (show B8 (l.take (i+1))=B8 (l.take i)++ [.int .i64 x,.int .i64 y] by rw[List.take_add_one,tr];exact G4 _ _)
   clear tr
   have k1:=b1.cell
   have f1:=b1.frozen
   have cb:=Hd (c_spOf x y)
   go_wp2_with fail
   refine(cb.out _).mono ?_
   rintro e w21 ⟨rfl,hb21⟩
   have z22:=hb21.size
   try simp at z22
   clear k1 f1
   refine Ae W w21 (Bc w.heap.size #[.int .i64 0,.int .i64 0] 33<|Bc W.heap.size #[.int .i64 x,.int .i64 y] 33<|Bz) ?_
   clear b1
   rintro hW z23 ⟨⟨b1,yb1,k1,f1⟩,⟨b2,yb2,k2,f2⟩,-⟩
   clear hb21
   have hown':=(hown.below hW).own
   have hW9:=hW0.trans (hW.mono hz)
   have ya9:=hW9.size
   clear cb hown hW
   go_wp2_with (at_builtin;refine wpList_append_own _ rfl (.tmp 25) (.tmp 28) 232 rfl w.heap.size 169 i0 (.agg #[.int .i64 0,.int .i64 0]) 2 16 (by kernel_rfl) hi hz0 hz1 hz2 rfl (by decide) _ _ _ rfl (hown'.alloc _) ⟨w21.heap.size,0,none⟩ 1 1 [.int .i64 x,.int .i64 y] rfl rfl (G6 _ _ _ _) (by simp[Value.oneCell']) (by simp[maxLen];omega) (by omega) (by simp;omega) ?_)
   intro v' w9 hown2 hgr _
   have hB:=Hd (A5 hW9 ya9 hown' hgr)
   have b9:=b1.grown hown' (by decide) hgr
   replace hown2:=Hd hown2
   clear hgr hown' b1 b2 k1 f1
   go_wp2
   rw[show (i:Int)+1=((i+1:Nat):Int) by omega]
   refine⟨?_,by simp[Ak];omega⟩
   unfold Xs
   exact⟨hB.out,b9,i+1,v',⟨by rw[htk.out];simpa using hown2.out⟩,Ac rfl,by omega⟩
  ·obtain rfl:i=l.length:=by omega
   rw[List.take_length] at hown
   obtain⟨g0,cp0,rfl,hP⟩:=hown.ptsS (by omega)
   replace hP:=Hd hP
   replace c2:=c2.out
   replace c3:=c3.out
   obtain⟨m,hm⟩:∃m,Bi (l.map (·.1))=m:=⟨_,rfl⟩
   obtain⟨n,hn⟩:∃n,Bi (l.map (·.2))=n:=⟨_,rfl⟩
   rw[hm,hn] at c2 c3
   replace hm:=Hd hm
   replace hn:=Hd hn
   clear hown
   have k1:=b1.cell
   have f1:=b1.frozen
   have hW:Below w.heap.size w W:=hW0
   have H_c2:=Hd c2
   have H_c3:=Hd c3
   clear c2 c3
   go_wp2_with fail
   refine(H_c2.out _ g0 cp0 hP.out).mono ?_
   rintro e w51 ⟨rfl,hb51⟩
   have z52:=hb51.size
   try simp at z52
   clear k1 f1
   refine Ae w w51 (Bc w.heap.size #[.int .i64 0,.int .i64 0] 33<|Bz) ?_
   clear b1 hW
   rintro hW z53 ⟨⟨b1,yb1,k1,f1⟩,-⟩
   clear hb51
   go_wp2_with fail
   refine(Le m n _).mono ?_
   rintro e w54 ⟨rfl,hb54⟩
   have z55:=hb54.size
   try simp at z55
   clear k1 f1
   refine Ae w w54 (Bc w.heap.size #[.int .i64 0,.int .i64 0] 33<|Bc w51.heap.size #[.int .i64 m,.int .i64 n] 169<|Bz) ?_
   clear b1 hW
   rintro hW z56 ⟨⟨b1,yb1,k1,f1⟩,⟨b2,yb2,k2,f2⟩,-⟩
   clear hb54
   go_wp2_with fail
   refine(H_c3.out _).mono ?_
   rintro e w57 ⟨rfl,hb57⟩
   have z58:=hb57.size
   try simp at z58
   clear k1 f1 k2 f2
   refine Ae w w57 (Bc w.heap.size #[.int .i64 0,.int .i64 0] 33<|Bc w51.heap.size #[.int .i64 m,.int .i64 n] 169<|Bc w54.heap.size #[.int .i64 m,.int .i64 n] 33<|Bz) ?_
   clear b1 b2 hW
   rintro hW z59 ⟨⟨b1,yb1,k1,f1⟩,⟨b2,yb2,k2,f2⟩,⟨b3,yb3,k3,f3⟩,-⟩
   clear hb57
   go_wp2
   have y1:=b1.lt
   refine bodyPost_ret (v:= .tuple #[.agg #[.int .i64 m,.int .i64 n],.int .i64 0]) (by simp[results,Tryz.results89,go_sem,k1,f1,y1]) rfl ⟨by rw[hm.out,hn.out],Aa⟩
theorem pubL_w (p:Option Addr) (len cap:Nat) (m n:Int) (w:World)
  (c1:∀W,Below w.heap.size w W->Cb 89 #[.slice p len cap,.func (.func 90) #[] #[]] W (.tuple #[.agg #[.int .i64 m,.int .i64 n],.int .i64 0])):
  Cb 43 #[.slice p len cap] w (.tuple #[.agg #[.int .i64 m,.int .i64 n],.int .i64 0]):=by
 have H_c1:=Hd c1
 clear c1
 go_enter Tryz.func43,Tryz.ntmps43
 go_wp2_with fail
 refine(H_c1.out _ Aa).mono ?_
 rintro e w1 ⟨rfl,hb1⟩
 have z2:=hb1.size
 try simp at z2
 refine Ae w w1 (Bc w.heap.size #[.int .i64 0,.int .i64 0] 33<|Bz) ?_
 rintro hW z3 ⟨⟨b1,yb1,k1,f1⟩,-⟩
 clear hb1
 go_wp2
 refine bodyPost_ret (by simp[results,Tryz.results43,go_sem,k1,f1,yb1]) rfl ⟨rfl,by exact Aa⟩
theorem c_spLeast (p:Option Addr) (cap:Nat) (l:List (Int×Int)) (w:World) (hlen:l.length<=1000000) (hpos:0<l.length) (h:Bv w p l) (hall:l.all (fun x=>decide (x.1<=x.2))=true):
  Cb 43 #[.slice p l.length cap] w (.tuple #[.agg #[.int .i64 (Bh (l.map (·.1))),.int .i64 (Bh (l.map (·.2)))],.int .i64 0]):=by
 have hs:Qi l=0:=by unfold Qi;rw[hall];rfl
 have hne:l≠ []:=List.length_pos_iff.1 hpos
 have hne1:l.map (·.1)≠ []:=by simpa using hne
 have hne2:l.map (·.2)≠ []:=by simpa using hne
 have hle:Bh (l.map (·.1))<=Bh (l.map (·.2)):=by
  obtain⟨x,hx,he⟩:=List.mem_map.1 (F3 hne2).1
  exact Int.le_trans ((F3 hne1).2 _ (List.mem_map_of_mem hx)) (by have:=List.all_eq_true.1 hall x hx;simp only[decide_eq_true_eq] at this;rw[<-he];exact this)
 refine pubL_w p l.length cap _ _ w fun W hW=>togL_w p cap l W hlen hpos (h.below hW) (fun W' hW'=> ?_) (fun W' g cp hp=>c_spFoldL _ cp l W' hlen hpos hp) (fun W'=> ?_)
 ·have:=Lf p cap l W' hlen ((h.below hW).below hW')
  rw[hs] at this
  exact this
 ·have:=Hb (Bh (l.map (·.1))) (Bh (l.map (·.2))) W'
  unfold spE at this
  rw[if_pos hle] at this
  exact this
theorem pubM_w (p:Option Addr) (len cap:Nat) (m n:Int) (w:World)
  (c1:∀W,Below w.heap.size w W->Cb 89 #[.slice p len cap,.func (.func 91) #[] #[]] W (.tuple #[.agg #[.int .i64 m,.int .i64 n],.int .i64 0])):
  Cb 44 #[.slice p len cap] w (.tuple #[.agg #[.int .i64 m,.int .i64 n],.int .i64 0]):=by
 have H_c1:=Hd c1
 clear c1
 go_enter Tryz.func44,Tryz.ntmps44
 go_wp2_with fail
 refine(H_c1.out _ Aa).mono ?_
 rintro e w1 ⟨rfl,hb1⟩
 have z2:=hb1.size
 try simp at z2
 refine Ae w w1 (Bc w.heap.size #[.int .i64 0,.int .i64 0] 33<|Bz) ?_
 rintro hW z3 ⟨⟨b1,yb1,k1,f1⟩,-⟩
 clear hb1
 go_wp2
 refine bodyPost_ret (by simp[results,Tryz.results44,go_sem,k1,f1,yb1]) rfl ⟨rfl,by exact Aa⟩
theorem c_spMost (p:Option Addr) (cap:Nat) (l:List (Int×Int)) (w:World) (hlen:l.length<=1000000) (hpos:0<l.length) (h:Bv w p l) (hall:l.all (fun x=>decide (x.1<=x.2))=true):
  Cb 44 #[.slice p l.length cap] w (.tuple #[.agg #[.int .i64 (Bi (l.map (·.1))),.int .i64 (Bi (l.map (·.2)))],.int .i64 0]):=by
 have hs:Qi l=0:=by unfold Qi;rw[hall];rfl
 have hne:l≠ []:=List.length_pos_iff.1 hpos
 have hne1:l.map (·.1)≠ []:=by simpa using hne
 have hne2:l.map (·.2)≠ []:=by simpa using hne
 have hle:Bi (l.map (·.1))<=Bi (l.map (·.2)):=by
  obtain⟨x,hx,he⟩:=List.mem_map.1 (F4 hne1).1
  exact by have:=List.all_eq_true.1 hall x hx;simp only[decide_eq_true_eq] at this;have h2:=(F4 hne2).2 _ (List.mem_map_of_mem (f:=fun z:Int×Int=>z.2) hx);(try simp only at h2);(try simp only at he);omega
 refine pubM_w p l.length cap _ _ w fun W hW=>togM_w p cap l W hlen hpos (h.below hW) (fun W' hW'=> ?_) (fun W' g cp hp=>c_spFoldM _ cp l W' hlen hpos hp) (fun W'=> ?_)
 ·have:=Lf p cap l W' hlen ((h.below hW).below hW')
  rw[hs] at this
  exact this
 ·have:=Hb (Bi (l.map (·.1))) (Bi (l.map (·.2))) W'
  unfold spE at this
  rw[if_pos hle] at this
  exact this
def Tn (i:Nat) (S:Int):Int:=if 1<=i then S else 0
def Tm (i:Nat) (S:Int):Int:=if 2<=i then S else 0
theorem c_spBoth (w:World):Calls Tryz.prog 93 #[] w fun e w'=>e= .returned (.slice (some ⟨w.heap.size,0,none⟩) 2 2)/\Below w.heap.size w w'/\Blk w' w.heap.size #[.func (.func 148) #[] #[],.func (.func 149) #[] #[]] 173:=by
 go_enter Tryz.func93,Tryz.ntmps93
 go_wp2
 go_ret
 exact⟨rfl,Aa,Blk.new' rfl⟩
def Vl (f:Bool) (S1 S2:Int):Array Value:=if f=true then #[S1,S2] else #[.int .i64 0,.int .i64 0]
def plusE (f:Bool):Int:=if f=true then 0 else 5
def Z7 (w:World) (p:Option Addr) (len cap:Nat) (S1 S2:Int) (fa fb:Bool) (g h:Nat) (a':Act) (W:World):Prop:=
 Below w.heap.size w W/\Blk W w.heap.size #[.int .i64 0,.int .i64 0] 33/\Blk W h #[.func (.func 148) #[] #[],.func (.func 149) #[] #[]] 173/\∃i:Nat,Blk W g #[.int .i64 (Tn i S1),.int .i64 (Tm i S2)] 169/\(∃u:Nat->Value,a'= {tmps:= #[.slice p len cap,u 1,.pointer (some ⟨w.heap.size,0,none⟩),u 3,u 4,.pointer (some ⟨g,0,none⟩),u 6,u 7,u 8,u 9,u 10,u 11,u 12,u 13,u 14,u 15,u 16,.slice (some ⟨h,0,none⟩) 2 2,.int .i64 2,.int .i64 (i:Int),u 20,u 21,u 22,u 23,u 24,u 25,u 26,u 27,u 28,u 29,u 30,u 31,u 32,u 33,u 34,u 35,u 36,u 37,u 38,u 39,u 40,u 41,u 42,u 43],defers:= []})/\i<=2/\(1<=i->fa=true)/\(2<=i->fb=true)
theorem spPlus_w (p:Option Addr) (len cap:Nat) (S1 S2:Int) (fa fb:Bool) (w:World) (hle:fa=true->fb=true->S1<=S2)
  (c1:∀W,Below w.heap.size w W->Cb 92 #[.slice p len cap] W (.int .i64 0))
  (c2:∀W,Below w.heap.size w W->Cb 94 #[.slice p len cap,.func (.func 148) #[] #[]] W (.tuple #[S1,.bool fa]))
  (c3:∀W,Below w.heap.size w W->Cb 94 #[.slice p len cap,.func (.func 149) #[] #[]] W (.tuple #[S2,.bool fb])):
  Cb 45 #[.slice p len cap] w (.tuple #[.agg (Vl (fa&&fb) S1 S2),.int .i64 (plusE (fa&&fb))]):=by
 replace c2:=Hd c2
 replace c3:=Hd c3
 have H_c1:=Hd c1
 clear c1
 go_enter Tryz.func45,Tryz.ntmps45
 go_upto_region 1 with(fail)
 refine wp_scope_straight ?_
 go_wp2_with fail
 refine(H_c1.out _ Aa).mono ?_
 rintro e w1 ⟨rfl,hb1⟩
 have z2:=hb1.size
 try simp at z2
 refine Ae w w1 (Bc w.heap.size #[.int .i64 0,.int .i64 0] 33<|Bz) ?_
 rintro hW z3 ⟨⟨b1,yb1,k1,f1⟩,-⟩
 clear hb1
 clear H_c1
 have hWW:=hW
 go_wp2
 refine wp_label ?_
 simp only[Exit.then]
 go_wp2_with fail
 refine(c_spBoth _).mono ?_
 rintro e w9 ⟨rfl,hb9,b9⟩
 have d1:Blk w9 w.heap.size #[.int .i64 0,.int .i64 0] 33:=Ab
 have d2:Blk w9 w1.heap.size #[.int .i64 0,.int .i64 0] 169:=Ab
 have d3:Blk w9 (w1.heap.size+1) #[.func (.func 148) #[] #[],.func (.func 149) #[] #[]] 173:=(by simpa using b9)
 have hW9:Below w.heap.size w w9:=Aa
 simp only[World.size_alloc]
 clear b1 b9 hb9 k1 f1 hW
 have y3:=d3.lt
 have k3:=d3.cell
 go_wp2
 clear k3
 refine wp_loop (Z7 w p len cap S1 S2 fa fb w1.heap.size (w1.heap.size+1)) (fun a' _=>2-(Ak (a'.tmps.getD 19 undef)).toNat) ?_ ?_
 ·unfold Z7
  exact⟨hW9,d1,d3,0,d2,Ac rfl,by omega,fun h=>by omega,fun h=>by omega⟩
 have hg1:=hWW.size
 have hg2:w.heap.size<w1.heap.size:=by omega
 obtain⟨g,hg⟩:∃g,w1.heap.size=g:=⟨_,rfl⟩
 rw[hg] at hg2⊢
 clear hg d1 d2 d3 hW9 y3 hWW hg1
 rintro a' W ⟨hW0,b1,b3,i,b2,⟨u,rfl⟩,hi',hfa,hfb⟩
 have hz:=hW0.size
 have zb1:=b1.lt
 have zb2:=b2.lt
 have zb3:=b3.lt
 have c2:=Hd (c2.out W hW0)
 have c3:=Hd (c3.out W hW0)
 have hi3:i=0∨i=1∨i=2:=by omega
 rcases hi3 with rfl|rfl|rfl
 ·replace b2:Blk W g #[.int .i64 0,.int .i64 0] 169:=by simpa [Tn,Tm] using b2
  cases fa with
  |true=>
   have k1:=b1.cell
   have f1:=b1.frozen
   have k2:=b2.cell
   have f2:=b2.frozen
   have k3:=b3.cell
   have f3:=b3.frozen
   go_wp2_with fail
   refine(c2.out).mono ?_
   rintro e w21 ⟨rfl,hb21⟩
   have z22:=hb21.size
   try simp at z22
   clear k1 f1 k2 f2 k3 f3
   refine Ae W w21 (Bc w.heap.size #[.int .i64 0,.int .i64 0] 33<|Bc g #[.int .i64 0,.int .i64 0] 169<|Bc (g+1) #[.func (.func 148) #[] #[],.func (.func 149) #[] #[]] 173<|Bz) ?_
   clear b1 b2 b3
   rintro hW z23 ⟨⟨b1,yb1,k1,f1⟩,⟨b2,yb2,k2,f2⟩,⟨b3,yb3,k3,f3⟩,-⟩
   clear hb21
   go_wp2
   refine⟨?_,by simp[Ak]⟩
   unfold Z7
   exact⟨hW0.trans ((hW.mono hz).setCell (by simp;omega) _),Ab,Ab,1,(Ab:Blk _ g #[S1,.int .i64 0] 169),Ac rfl,by omega,fun _=>rfl,fun h=>by omega⟩
  |false=>
   have k1:=b1.cell
   have f1:=b1.frozen
   have k2:=b2.cell
   have f2:=b2.frozen
   have k3:=b3.cell
   have f3:=b3.frozen
   go_wp2_with fail
   refine(c2.out).mono ?_
   rintro e w21 ⟨rfl,hb21⟩
   have z22:=hb21.size
   try simp at z22
   clear k1 f1 k2 f2 k3 f3
   refine Ae W w21 (Bc w.heap.size #[.int .i64 0,.int .i64 0] 33<|Bc g #[.int .i64 0,.int .i64 0] 169<|Bc (g+1) #[.func (.func 148) #[] #[],.func (.func 149) #[] #[]] 173<|Bz) ?_
   clear b1 b2 b3
   rintro hW z23 ⟨⟨b1,yb1,k1,f1⟩,⟨b2,yb2,k2,f2⟩,⟨b3,yb3,k3,f3⟩,-⟩
   clear hb21
   have hB8:=hW0.trans (hW.mono hz)
   clear hW
   go_wp2_with fail
   refine(Le 9223372036854775807 (-9223372036854775808) _).mono ?_
   rintro e w31 ⟨rfl,hb31⟩
   have d1:Blk w31 w.heap.size #[.int .i64 0,.int .i64 0] 33:=Ab
   have hW31:Below w.heap.size w w31:=Aa
   have z31:=hW31.size
   have zd:=d1.lt
   clear hB8 hb31 b1 b2 b3 k1 f1 k2 f2 k3 f3
   have k1:=d1.cell
   have f1:=d1.frozen
   have cz:=Hd (show∀W,Cb 96 #[.agg #[.int .i64 9223372036854775807,.int .i64 (-9223372036854775808)]] W (.int .i64 140) from fun W=>by have:=Hb 9223372036854775807 (-9223372036854775808) W;unfold spE at this;rw[if_neg (by first|assumption|omega)] at this;exact this)
   go_wp2_with fail
   refine(cz.out _).mono ?_
   rintro e w32 ⟨rfl,hb32⟩
   have e1:Blk w32 w.heap.size #[.int .i64 0,.int .i64 0] 33:=Ab
   have e2:Blk w32 w31.heap.size #[.int .i64 9223372036854775807,.int .i64 (-9223372036854775808)] 33:=Ab
   have hW32:Below w.heap.size w w32:=Aa
   have z32:=hW32.size
   have ze:=e1.lt
   have ze2:=e2.lt
   clear cz d1 hW31 hb32 k1 f1
   have k1:=e1.cell
   have f1:=e1.frozen
   have k2:=e2.cell
   go_wp2
   simp only[Exit.noGoto]
   refine bodyPost_ret (v:= .tuple #[.agg #[.int .i64 0,.int .i64 0],.int .i64 5]) (by simp[results,Tryz.results45,go_sem,k1,f1,ze]) rfl ⟨rfl,by exact Aa⟩
 ·replace b2:Blk W g #[S1,.int .i64 0] 169:=by simpa [Tn,Tm] using b2
  cases fb with
  |true=>
   have k1:=b1.cell
   have f1:=b1.frozen
   have k2:=b2.cell
   have f2:=b2.frozen
   have k3:=b3.cell
   have f3:=b3.frozen
   go_wp2_with fail
   refine(c3.out).mono ?_
   rintro e w21 ⟨rfl,hb21⟩
   have z22:=hb21.size
   try simp at z22
   clear k1 f1 k2 f2 k3 f3
   refine Ae W w21 (Bc w.heap.size #[.int .i64 0,.int .i64 0] 33<|Bc g #[S1,.int .i64 0] 169<|Bc (g+1) #[.func (.func 148) #[] #[],.func (.func 149) #[] #[]] 173<|Bz) ?_
   clear b1 b2 b3
   rintro hW z23 ⟨⟨b1,yb1,k1,f1⟩,⟨b2,yb2,k2,f2⟩,⟨b3,yb3,k3,f3⟩,-⟩
   clear hb21
   go_wp2
   refine⟨?_,by simp[Ak]⟩
   unfold Z7
   exact⟨hW0.trans ((hW.mono hz).setCell (by simp;omega) _),Ab,Ab,2,(Ab:Blk _ g #[S1,S2] 169),Ac rfl,by omega,fun _=>hfa (Nat.le_refl _),fun _=>rfl⟩
  |false=>
   have k1:=b1.cell
   have f1:=b1.frozen
   have k2:=b2.cell
   have f2:=b2.frozen
   have k3:=b3.cell
   have f3:=b3.frozen
   go_wp2_with fail
   refine(c3.out).mono ?_
   rintro e w21 ⟨rfl,hb21⟩
   have z22:=hb21.size
   try simp at z22
   clear k1 f1 k2 f2 k3 f3
   refine Ae W w21 (Bc w.heap.size #[.int .i64 0,.int .i64 0] 33<|Bc g #[S1,.int .i64 0] 169<|Bc (g+1) #[.func (.func 148) #[] #[],.func (.func 149) #[] #[]] 173<|Bz) ?_
   clear b1 b2 b3
   rintro hW z23 ⟨⟨b1,yb1,k1,f1⟩,⟨b2,yb2,k2,f2⟩,⟨b3,yb3,k3,f3⟩,-⟩
   clear hb21
   have hB8:=hW0.trans (hW.mono hz)
   clear hW
   go_wp2_with fail
   refine(Le 9223372036854775807 (-9223372036854775808) _).mono ?_
   rintro e w31 ⟨rfl,hb31⟩
   have d1:Blk w31 w.heap.size #[.int .i64 0,.int .i64 0] 33:=Ab
   have hW31:Below w.heap.size w w31:=Aa
   have z31:=hW31.size
   have zd:=d1.lt
   clear hB8 hb31 b1 b2 b3 k1 f1 k2 f2 k3 f3
   have k1:=d1.cell
   have f1:=d1.frozen
   have cz:=Hd (show∀W,Cb 96 #[.agg #[.int .i64 9223372036854775807,.int .i64 (-9223372036854775808)]] W (.int .i64 140) from fun W=>by have:=Hb 9223372036854775807 (-9223372036854775808) W;unfold spE at this;rw[if_neg (by first|assumption|omega)] at this;exact this)
   go_wp2_with fail
   refine(cz.out _).mono ?_
   rintro e w32 ⟨rfl,hb32⟩
   have e1:Blk w32 w.heap.size #[.int .i64 0,.int .i64 0] 33:=Ab
   have e2:Blk w32 w31.heap.size #[.int .i64 9223372036854775807,.int .i64 (-9223372036854775808)] 33:=Ab
   have hW32:Below w.heap.size w w32:=Aa
   have z32:=hW32.size
   have ze:=e1.lt
   have ze2:=e2.lt
   clear cz d1 hW31 hb32 k1 f1
   have k1:=e1.cell
   have f1:=e1.frozen
   have k2:=e2.cell
   go_wp2
   simp only[Exit.noGoto]
   refine bodyPost_ret (v:= .tuple #[.agg #[.int .i64 0,.int .i64 0],.int .i64 5]) (by simp[results,Tryz.results45,go_sem,k1,f1,ze]) rfl ⟨by rw[Bool.and_false];rfl,by exact Aa⟩
 ·replace b2:Blk W g #[S1,S2] 169:=by simpa [Tn,Tm] using b2
  obtain rfl:=hfa (by omega)
  obtain rfl:=hfb (by omega)
  replace hle:=hle rfl rfl
  have k1:=b1.cell
  have f1:=b1.frozen
  have k2:=b2.cell
  have f2:=b2.frozen
  have k3:=b3.cell
  have f3:=b3.frozen
  have hB8:=hW0
  clear hW0
  go_wp2_with fail
  refine(Le S1 S2 _).mono ?_
  rintro e w31 ⟨rfl,hb31⟩
  have d1:Blk w31 w.heap.size #[.int .i64 0,.int .i64 0] 33:=Ab
  have hW31:Below w.heap.size w w31:=Aa
  have z31:=hW31.size
  have zd:=d1.lt
  clear hB8 hb31 b1 b2 b3 k1 f1 k2 f2 k3 f3
  have k1:=d1.cell
  have f1:=d1.frozen
  have cz:=Hd (show∀W,Cb 96 #[.agg #[S1,S2]] W (.int .i64 0) from fun W=>by have:=Hb S1 S2 W;unfold spE at this;rw[if_pos (by first|assumption|omega)] at this;exact this)
  go_wp2_with fail
  refine(cz.out _).mono ?_
  rintro e w32 ⟨rfl,hb32⟩
  have e1:Blk w32 w.heap.size #[.int .i64 0,.int .i64 0] 33:=Ab
  have e2:Blk w32 w31.heap.size #[S1,S2] 33:=Ab
  have hW32:Below w.heap.size w w32:=Aa
  have z32:=hW32.size
  have ze:=e1.lt
  have ze2:=e2.lt
  clear cz d1 hW31 hb32 k1 f1
  have k1:=e1.cell
  have f1:=e1.frozen
  have k2:=e2.cell
  go_wp2
  simp only[Exit.noGoto]
  refine bodyPost_ret (v:= .tuple #[.agg #[S1,S2],.int .i64 0]) (by simp[results,Tryz.results45,go_sem,k1,f1,ze]) rfl ⟨rfl,by exact Aa⟩
def spA (l:List (Int×Int)):Int:=Ap (l.map (·.1))
def spB (l:List (Int×Int)):Int:=Ap (l.map (·.2))
theorem spA_le :∀ {l:List (Int×Int)},l.all (fun x=>decide (x.1<=x.2))=true->spA l<=spB l
 | [],_=>Int.le_refl _
 |x::l,h=>by
  simp only[List.all_cons,Bool.and_eq_true,decide_eq_true_eq] at h
  have:=spA_le h.2
  unfold spA spB at*
  simp only[List.map_cons,Ap]
  omega
theorem Yy {n:Int}:inI n=true↔-9223372036854775808<=n/\n<=9223372036854775807:=by unfold inI;rw[decide_eq_true_eq];rfl
theorem M8 {n:Int} (h:inI n=true):wrap64 n=n:=by
 have:=Yy.1 h
 rw[Al]
 omega
theorem c_spPlus (p:Option Addr) (cap:Nat) (l:List (Int×Int)) (w:World) (hlen:l.length<=1000000) (h:Bv w p l) (hv:∀x,x∈l->I64 x.1/\I64 x.2) (hall:l.all (fun x=>decide (x.1<=x.2))=true):
  Cb 45 #[.slice p l.length cap] w (.tuple #[.agg (Vl (inI (spA l)&&inI (spB l)) (spA l) (spB l)),.int .i64 (plusE (inI (spA l)&&inI (spB l)))]):=by
 have hs:Qi l=0:=by unfold Qi;rw[hall];rfl
 have key:=spPlus_w p l.length cap (wrap64 (spA l)) (wrap64 (spB l)) (inI (spA l)) (inI (spB l)) w (fun h1 h2=>by rw[M8 h1,M8 h2];exact spA_le hall)
  (fun W hW=>by have:=Lf p cap l W hlen (h.below hW);rw[hs] at this;exact this) (fun W hW=>c_spTot1 p cap l W hlen (h.below hW) hv) (fun W hW=>c_spTot2 p cap l W hlen (h.below hW) hv)
 have e:Vl (inI (spA l)&&inI (spB l)) (wrap64 (spA l)) (wrap64 (spB l))=Vl (inI (spA l)&&inI (spB l)) (spA l) (spB l):=by
  unfold Vl
  split
  ·rename_i hh
   rw[Bool.and_eq_true] at hh
   rw[M8 hh.1,M8 hh.2]
  ·rfl
 rw[e] at key
 exact key
theorem c_spPoint (v:Int) (w:World):Cb 207 #[v] w (.agg #[v,v]):=by
 go_enter Tryz.func207,Tryz.ntmps207
 go_wp2
 refine bodyPost_ret (v:= .agg #[v,v]) (by simp[results,Tryz.results207,go_sem]) rfl ⟨rfl,by exact Aa⟩
theorem around_w (v far:Int) (w:World) (h0:0<=far) (E1:Hid (wrap64 (-far)= -far))
  (c2:∀W g,Bv W (some ⟨g,0,none⟩) [(v,v),(-far,far)]->Cb 45 #[.slice (some ⟨g,0,none⟩) 2 2] W (.tuple #[.agg #[.int .i64 (v-far),.int .i64 (v+far)],.int .i64 0])):
  Cb 185 #[v,far] w (.tuple #[.agg #[.int .i64 (v-far),.int .i64 (v+far)],.int .i64 0]):=by
 have H_c2:=Hd c2
 clear c2
 go_enter Tryz.func185,Tryz.ntmps185
 go_wp2_with fail
 refine(c_spPoint v _).mono ?_
 rintro e w1 ⟨rfl,hb1⟩
 have z2:=hb1.size
 try simp at z2
 refine Ae w w1 (Bc w.heap.size #[.int .i64 0,.int .i64 0] 33<|Bz) ?_
 rintro hW z3 ⟨⟨b1,yb1,k1,f1⟩,-⟩
 clear hb1
 have c2:=H_c2.out
 go_wp2_with fail
 have p9:Blk (w1.alloc (.cells #[v,v,.int .i64 (wrap64 (-far)),far] 33)) w1.heap.size #[v,v,.int .i64 (wrap64 (-far)),far] 33:=Blk.new' rfl
 rw[E1.out] at p9⊢
 refine(c2 _ w1.heap.size (J5 (n:=4) (l:= [(v,v),(-far,far)]) p9 rfl)).mono ?_
 rintro e w9 ⟨rfl,hb9⟩
 have d1:Blk w9 w.heap.size #[.int .i64 0,.int .i64 0] 33:=Ab
 have hW9:Below w.heap.size w w9:=Aa
 clear c2 p9 hb9 hW b1 k1 f1
 have k1:=d1.cell
 have f1:=d1.frozen
 have y1:=d1.lt
 go_wp2
 refine bodyPost_ret (v:= .tuple #[.agg #[.int .i64 (v-far),.int .i64 (v+far)],.int .i64 0]) (by simp[results,Tryz.results185,go_sem,k1,f1,y1]) rfl ⟨rfl,by exact Aa⟩
theorem Y8 (v far:Int) (w:World) (h0:0<=far) (h1:far<=1099511627776) (h2: -4611686018427387904<=v) (h3:v<=4611686018427387904):
  Cb 185 #[v,far] w (.tuple #[.agg #[.int .i64 (v-far),.int .i64 (v+far)],.int .i64 0]):=by
 refine around_w v far w h0 (Hd (by rw[Al];omega)) fun W g hp=> ?_
 have hA:spA [(v,v),(-far,far)]=v-far:=by simp[spA,Ap];omega
 have hB:spB [(v,v),(-far,far)]=v+far:=by simp[spB,Ap]
 have i1:inI (v-far)=true:=Yy.2 (by omega)
 have i2:inI (v+far)=true:=Yy.2 (by omega)
 have key:=c_spPlus (some ⟨g,0,none⟩) 2 [(v,v),(-far,far)] W (by simp) hp (fun x hx=>by simp at hx;rcases hx with rfl|rfl<;>simp only[I64]<;>omega) (by simp;omega)
 rw[hA,hB,i1,i2] at key
 exact key
theorem Zr (v far:Int) (w:World)
  (c2:∀W,Below w.heap.size w W->Cb 185 #[v,far] W (.tuple #[.agg #[.int .i64 (v-far),.int .i64 (v+far)],.int .i64 0])):
  Cb 156 #[v,far] w (.agg #[.int .i64 (v-far),.int .i64 (v+far)]):=by
 have H_c2:=Hd c2
 clear c2
 go_enter Tryz.func156,Tryz.ntmps156
 go_wp2_with fail
 refine(H_c2.out _ Aa).mono ?_
 rintro e w1 ⟨rfl,hb1⟩
 have z2:=hb1.size
 try simp at z2
 refine Ae w w1 (Bc w.heap.size #[.int .i64 0,.int .i64 0] 33<|Bz) ?_
 rintro hW z3 ⟨⟨b1,yb1,k1,f1⟩,-⟩
 clear hb1
 go_wp2
 refine bodyPost_ret (by simp[results,Tryz.results156,go_sem,k1,f1,yb1]) rfl ⟨rfl,by exact Aa⟩
theorem Re (v far:Int) (w:World) (h0:0<=far) (h1:far<=1099511627776) (h2: -4611686018427387904<=v) (h3:v<=4611686018427387904):
  Cb 156 #[v,far] w (.agg #[.int .i64 (v-far),.int .i64 (v+far)]):=
 Zr v far w fun W _=>Y8 v far W h0 h1 h2 h3
theorem c_Sub (a b:Int) (w:World) (ha:Bt a) (hb:Bt b):
  Cb 158 #[B4 a,B4 b] w (.tuple #[B4 (wv (inW (a-b)) (Bw (a-b))),.int .i64 (we (inW (a-b)))]):=by
 have c1:=fun w=>Kc a b w ha hb
 have c2:=fun f w=>Y7 (Bw (a-b)) f w
 clear ha hb
 unfold B4 at*
 generalize inW (a-b)=f at*
 go_enter Tryz.func158,Tryz.ntmps158
 go_wp2_with fail
 refine(c1 _).mono ?_
 rintro e w1 ⟨rfl,hb1⟩
 obtain⟨hc1,hf1⟩:=Fy hb1
 have hz1:=hb1.size
 simp at hz1
 go_wp2_with fail
 refine(c2 _ _).mono ?_
 rintro e w2 ⟨rfl,hb2⟩
 obtain⟨hc2,hf2⟩:=Fy hb2
 have hz2:=hb2.size
 clear c1 c2
 have z0:w.heap.size<w2.heap.size:=by omega
 have z1:w.heap.size+1<w2.heap.size:=by omega
 have z2:w.heap.size+1+1<w2.heap.size:=by omega
 have y0:w.heap.size<w1.heap.size:=by omega
 have y1:w.heap.size+1<w1.heap.size:=by omega
 have y2:w.heap.size+1+1<w1.heap.size:=by omega
 go_wp2
 refine bodyPost_ret (v:= .tuple #[.agg #[.int .i64 (hiW (wv f (Bw (a-b)))),.int .u64 (loW (wv f (Bw (a-b))))],.int .i64 (we f)]) (by simp[results,Tryz.results158,go_sem,hc1,hc2,y0,y1,y2]) rfl ⟨rfl,?_⟩
 have h0:Below w.heap.size w w1:=((((Below.refl _ _).alloc (Nat.le_refl _) _).alloc (by simp) _).alloc (by simp;omega) _).trans (hb1.mono (by simp;omega))
 exact(((h0.trans (hb2.mono (by omega))).setCell (by simp;omega) _).setCell (by simp;omega) _)
end Go.Proofs.YtidfcoooccblaaaGreat
