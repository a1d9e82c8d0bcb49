/- Parts of the proof that follows. No condition. -/
import Derived.Deep.RegionLaw
import Derived.Deep.AppendLies
import Derived.Deep.DrawnRows
import Derived.Test.YtdeghcgakkhbmaaGreatSd9
set_option maxRecDepth 100000
set_option maxHeartbeats 8000000
set_option linter.unusedSimpArgs false
set_option linter.unusedVariables false
namespace Go.Proofs.YtdeghcgakkhbmaaGreat
open Go.RowKit
attribute [local simp] Oper.looksAt Op.operands Call.operands Af Det Am
theorem Jk {A R n d:Int} {w:World}:((if A=0 then (if R=0 then (if n=0 then (if d=0 then Result.ok (Go.Next.value (Value.bool false)) w else Result.ok (Go.Next.value (Value.bool true)) w) else Result.ok (Go.Next.value (Value.bool true)) w) else Result.ok (Go.Next.value (Value.bool true)) w) else Result.ok (Go.Next.value (Value.bool true)) w):Result Go.Next)=Result.ok (Go.Next.value (Value.bool (!(Ku A R n d)))) w:=by
 unfold Ku
 by_cases h1:A=0<;>by_cases h2:R=0<;>by_cases h3:n=0<;>by_cases h4:d=0<;>simp[h1,h2,h3,h4]
theorem nd_on {P:Program} {ops:Array Oper} {C:World->Prop} {X:List (Nat×Nat)} {a0:Act} {Fin:List (Option Tmp×Bi)->Prop} {i:Nat} {o:Oper} {rest:List Oper} {acc:List (Option Tmp×Bi)}
  (Φ:Bi) (want:Bool) (k:Nat) (d:Tmp) (hcl:A9 (Bn X i) Φ) (hg:o.guard=some (k,want)) (hd:Bf ops k=some d) (hx:∀v w,Af a0 acc d v w->v= .bool want)
  (h:∀(a:Act) (w:World),C w->(∀s∈o.looksAt ops,Af a0 acc s (a.tmps.getD s undef) w)->Ml P o (Fi X i) Φ w ((execOp a.eval o).run P w))
  (hr:Ao P ops C X a0 Fin (i+1) rest ((o.dst,Φ)::acc)):Ao P ops C X a0 Fin i (o::rest) acc:=by
 refine⟨Φ,hcl,fun a w hC hE=> ?_,hr⟩
 have hin:d∈o.looksAt ops:=by
  unfold Bf at hd
  simp[Oper.looksAt,hg,hd]
 have hv:=hx _ _ (hE d hin)
 have hw:=Gu (o:=o) hg hd hv
 refine⟨fun _=>h a w hC hE,fun e=> ?_⟩
 rw[hw] at e
 simp at e
theorem Uw {P:Program} {ops:Array Oper} {C:World->Prop} {X:List (Nat×Nat)} {a0:Act} {Fin:List (Option Tmp×Bi)->Prop} {i:Nat} {o:Oper} {rest:List Oper} {acc:List (Option Tmp×Bi)}
  (Φ:Bi) {want:Bool} {k:Nat} {d:Tmp} (hcl:A9 (Bn X i) Φ) (hg:o.guard=some (k,want)) (hd:Bf ops k=some d) (hal:Au o=false) (hx:∀v w,Af a0 acc d v w->v= .bool want)
  (h:∀(a:Act) (w:World),C w->(∀s∈o.looksAt ops,Af a0 acc s (a.tmps.getD s undef) w)->∃f args,(execOp a.eval o).run P w= .ok (.enter f args) w/\Calls P f args w fun e w'=>∃u,e= .returned u/\Below w.heap.size w w'/\Φ u w')
  (hr:Ao P ops C X a0 Fin (i+1) rest ((o.dst,Φ)::acc)):Ao P ops C X a0 Fin i (o::rest) acc:=
 nd_on Φ want k d hcl hg hd hx (fun a w hC hE=>by
  obtain⟨f,args,h1,h2⟩:=h a w hC hE
  rw[h1]
  exact⟨rfl,hal,h2.mono fun e w' ⟨u,he,hb,hΦ⟩=>⟨u,he,Rex.of_below hb,hΦ⟩⟩) hr
theorem Yx {P:Program} {ops:Array Oper} {C:World->Prop} {X:List (Nat×Nat)} {a0:Act} {Fin:List (Option Tmp×Bi)->Prop} {i:Nat} {o:Oper} {rest:List Oper} {acc:List (Option Tmp×Bi)}
  (Φ:Bi) {want:Bool} {k:Nat} {d:Tmp} (hcl:A9 (Bn X i) Φ) (hg:o.guard=some (k,want)) (hd:Bf ops k=some d) (hal:Au o=false) (hx:∀v w,Af a0 acc d v w->v= .bool want)
  (h:∀(a:Act) (w:World),C w->(∀s∈o.looksAt ops,Af a0 acc s (a.tmps.getD s undef) w)->∃v,(execOp a.eval o).run P w= .ok (.value v) w/\Φ v w)
  (hr:Ao P ops C X a0 Fin (i+1) rest ((o.dst,Φ)::acc)):Ao P ops C X a0 Fin i (o::rest) acc:=
 nd_on Φ want k d hcl hg hd hx (fun a w hC hE=>by
  obtain⟨v,h1,h2⟩:=h a w hC hE
  rw[h1]
  exact⟨Rex.refl _ _,h2,fun e=>by rw[hal] at e;cases e⟩) hr
def OV (B:Nat) (T:List Int):Bi:=fun v w=>Bj w B 2 1 v T.length (T.map (Value.int .i64))
theorem OV.closed (B:Nat) (T:List Int):A9 [] (OV B T):=fun _ _ _ hr h=>Bj.rex h hr rfl
def R4 (R n:Int):Int:=if n=0 then 1 else if R=0 then 2 else 3
theorem c_rkind (A R n d:Int) (w:World):Cb 179 #[.agg #[A,R,n,d]] w (.int .i64 (R4 R n)):=by
 unfold R4
 go_enter Tryz.func179,Tryz.ntmps179
 by_cases h1:n=0
 ·subst h1
  rw[if_pos rfl]
  go_wp2
  go_ret
  exact⟨rfl,Aa⟩
 ·rw[if_neg h1]
  have h1':(n==0)=false:=by simp[h1]
  by_cases h2:R=0
  ·subst h2
   rw[if_pos rfl]
   go_wp2
   go_ret
   exact⟨rfl,Aa⟩
  ·rw[if_neg h2]
   have h2':(R==0)=false:=by simp[h2]
   go_wp2
   go_ret
   exact⟨rfl,Aa⟩
theorem rr_no1 (K A R n d E:Int) (p q:Option Addr) (len cap m vc:Nat) (w:World) (c1:∀W,Below w.heap.size w W->Cb 177 #[.slice p len cap] W (.bool false)):
  Cb 162 #[.agg #[K,.slice p len cap,A,R,n,d,.slice q m vc,E]] w (.bool false):=by
 have H_c1:=Hd c1
 clear c1
 go_enter Tryz.func162,Tryz.ntmps162
 go_wp2_with fail
 refine(H_c1.out _ Aa).mono ?_
 rintro e w1 ⟨rfl,hb1⟩
 have z2:=hb1.size
 try simp at z2
 refine Aj w w1 (Bc w.heap.size #[K,.slice p len cap,A,R,n,d,.slice q m vc,E] 135<|Bz) ?_
 rintro hW z3 ⟨⟨b1,yb1,k1,f1⟩,-⟩
 clear hb1
 go_wp2
 refine bodyPost_ret (v:= .bool false) (by simp[results,Tryz.results162,go_sem,k1,f1,yb1]) rfl ⟨rfl,hW⟩
theorem rr_no2 (K A R n d E:Int) (p q:Option Addr) (len cap m vc:Nat) (w:World) (hE:E<0∨1099511627776<E) (c1:∀W,Below w.heap.size w W->Cb 177 #[.slice p len cap] W (.bool true)):
  Cb 162 #[.agg #[K,.slice p len cap,A,R,n,d,.slice q m vc,E]] w (.bool false):=by
 rcases hE with hE|hE
 ·have H_c1:=Hd c1
  clear c1
  go_enter Tryz.func162,Tryz.ntmps162
  go_wp2_with fail
  refine(H_c1.out _ Aa).mono ?_
  rintro e w1 ⟨rfl,hb1⟩
  have z2:=hb1.size
  try simp at z2
  refine Aj w w1 (Bc w.heap.size #[K,.slice p len cap,A,R,n,d,.slice q m vc,E] 135<|Bz) ?_
  rintro hW z3 ⟨⟨b1,yb1,k1,f1⟩,-⟩
  clear hb1
  go_wp2
  refine bodyPost_ret (v:= .bool false) (by simp[results,Tryz.results162,go_sem,k1,f1,yb1]) rfl ⟨rfl,hW⟩
 ·have H_c1:=Hd c1
  clear c1
  go_enter Tryz.func162,Tryz.ntmps162
  go_wp2_with fail
  refine(H_c1.out _ Aa).mono ?_
  rintro e w1 ⟨rfl,hb1⟩
  have z2:=hb1.size
  try simp at z2
  refine Aj w w1 (Bc w.heap.size #[K,.slice p len cap,A,R,n,d,.slice q m vc,E] 135<|Bz) ?_
  rintro hW z3 ⟨⟨b1,yb1,k1,f1⟩,-⟩
  clear hb1
  go_wp2
  refine bodyPost_ret (v:= .bool false) (by simp[results,Tryz.results162,go_sem,k1,f1,yb1]) rfl ⟨rfl,hW⟩
theorem rr_raw0 (A R n d E:Int) (p q:Option Addr) (len cap m vc:Nat) (w:World) (hE0:0<=E) (hE1:E<=1099511627776) (hz:Hid (Ku A R n d=false)) (c1:∀W,Below w.heap.size w W->Cb 177 #[.slice p len cap] W (.bool true)):
  Cb 162 #[.agg #[.int .i64 4,.slice p len cap,A,R,n,d,.slice q m vc,E]] w (.bool false):=by
 have H_c1:=Hd c1
 clear c1
 go_enter Tryz.func162,Tryz.ntmps162
 go_wp2_with fail
 refine(H_c1.out _ Aa).mono ?_
 rintro e w1 ⟨rfl,hb1⟩
 have z2:=hb1.size
 try simp at z2
 refine Aj w w1 (Bc w.heap.size #[.int .i64 4,.slice p len cap,A,R,n,d,.slice q m vc,E] 135<|Bz) ?_
 rintro hW z3 ⟨⟨b1,yb1,k1,f1⟩,-⟩
 clear hb1
 go_upto_region 4 with(fail)
 clear k1 f1
 refine Ab w (Bc w.heap.size #[.int .i64 4,.slice p len cap,A,R,n,d,.slice q m vc,E] 135<|Bz) ?_
 clear b1 hW
 rintro W4 hW z5 hL
 obtain⟨⟨b1,yb1,k1,f1⟩,-⟩:=id hL
 clear k1 f1
 refine Bw 14 60 hW hL ?_
 iterate 5
  apply An (hg:=rfl) (hal:=rfl)
  ·intro a W' hC hE
   obtain⟨_,⟨-,-,k1,-⟩,-⟩:=hC
   first
    |(simp at hE;simp[go_sem,Act.eval,iw,hE,k1,Jk,hz.out];try rfl)
    |(clear hE;simp[go_sem,Act.eval,iw,k1,Jk,hz.out];try rfl)
 apply Ai (p:=true) (c:=undef) (hg:=rfl) (hd:=rfl) (hal:=rfl)
 ·intro v W' h
  simp at h
  simp
  exact h
 ·intro hp hx
  exact absurd hx (by decide)
 apply Ai (p:=true) (c:=undef) (hg:=rfl) (hd:=rfl) (hal:=rfl)
 ·intro v W' h
  simp at h
  simp
  exact h
 ·intro hp hx
  exact absurd hx (by decide)
 apply Ai (p:=true) (c:=undef) (hg:=rfl) (hd:=rfl) (hal:=rfl)
 ·intro v W' h
  simp at h
  simp
  exact h
 ·intro hp hx
  exact absurd hx (by decide)
 apply Ai (p:=true) (c:=undef) (hg:=rfl) (hd:=rfl) (hal:=rfl)
 ·intro v W' h
  simp at h
  simp
  exact h
 ·intro hp hx
  exact absurd hx (by decide)
 apply Ai (p:=true) (c:=undef) (hg:=rfl) (hd:=rfl) (hal:=rfl)
 ·intro v W' h
  simp at h
  simp
  exact h
 ·intro hp hx
  exact absurd hx (by decide)
 apply Ai (p:=true) (c:=undef) (hg:=rfl) (hd:=rfl) (hal:=rfl)
 ·intro v W' h
  simp at h
  simp
  exact h
 ·intro hp hx
  exact absurd hx (by decide)
 apply Ai (p:=true) (c:=undef) (hg:=rfl) (hd:=rfl) (hal:=rfl)
 ·intro v W' h
  simp at h
  simp
  exact h
 ·intro hp hx
  exact absurd hx (by decide)
 apply Ai (p:=true) (c:=undef) (hg:=rfl) (hd:=rfl) (hal:=rfl)
 ·intro v W' h
  simp at h
  simp
  exact h
 ·intro hp hx
  exact absurd hx (by decide)
 apply Ek (y:=false) (ho:=rfl) (hg:=rfl)
 ·intro v W' h
  simp at h
  exact h
 ·intro v W' h hx
  exact absurd hx (by decide)
 clear hW hL b1
 rintro W6 hW z7 hL
 simp only[ndR]
 intros
 repeat (rename Am _ _ _ _=>hgd;clear hgd)
 simp only[ndS]
 refine wpList_nil ?_
 obtain⟨⟨b1,yb1,k1,f1⟩,-⟩:=hL
 rw[Bool.true_or]
 go_wp2
 refine bodyPost_ret (v:= .bool false) (by simp[results,Tryz.results162,go_sem,k1,f1,yb1]) rfl ⟨rfl,hW⟩
theorem rr_raw2 (A R n d E:Int) (p q:Option Addr) (len cap m vc:Nat) (w:World) (T:List Int) (ok:Bool) (hm:Hid (m=T.length)) (hE0:0<=E) (hE1:E<=1099511627776) (hz:Hid (Ku A R n d=true)) (c1:∀W,Below w.heap.size w W->Cb 177 #[.slice p len cap] W (.bool true)) (c2:∀W,Below w.heap.size w W->Calls Tryz.prog 135 #[.slice p len cap] W fun e w'=>∃v,e= .returned v/\Bj w' W.heap.size 2 1 v T.length (T.map (Value.int .i64))/\Below W.heap.size W w') (c3:∀W,Below w.heap.size w W->Calls Tryz.prog 85 #[.agg #[.int .i64 4,.slice p len cap,A,R,n,d,.slice q m vc,E]] W fun e w'=>∃v,e= .returned (.tuple #[v,.bool ok])/\Below W.heap.size W w'):
  Cb 162 #[.agg #[.int .i64 4,.slice p len cap,A,R,n,d,.slice q m vc,E]] w (.bool ok):=by
 have H_c1:=Hd c1
 clear c1
 have H_c2:=Hd c2
 clear c2
 have H_c3:=Hd c3
 clear c3
 go_enter Tryz.func162,Tryz.ntmps162
 go_wp2_with fail
 refine(H_c1.out _ Aa).mono ?_
 rintro e w1 ⟨rfl,hb1⟩
 have z2:=hb1.size
 try simp at z2
 refine Aj w w1 (Bc w.heap.size #[.int .i64 4,.slice p len cap,A,R,n,d,.slice q m vc,E] 135<|Bz) ?_
 rintro hW z3 ⟨⟨b1,yb1,k1,f1⟩,-⟩
 clear hb1
 have c2:=H_c2.out
 go_upto_region 4 with(fail)
 clear k1 f1
 refine Ab w (Bc w.heap.size #[.int .i64 4,.slice p len cap,A,R,n,d,.slice q m vc,E] 135<|Bz) ?_
 clear b1 hW
 rintro W4 hW z5 hL
 obtain⟨⟨b1,yb1,k1,f1⟩,-⟩:=id hL
 clear k1 f1
 refine Bw 14 60 hW hL ?_
 iterate 5
  apply An (hg:=rfl) (hal:=rfl)
  ·intro a W' hC hE
   obtain⟨_,⟨-,-,k1,-⟩,-⟩:=hC
   first
    |(simp at hE;simp[go_sem,Act.eval,iw,hE,k1,Jk,hz.out];try rfl)
    |(clear hE;simp[go_sem,Act.eval,iw,k1,Jk,hz.out];try rfl)
 iterate 5
  apply Ai (p:=true) (hg:=rfl) (hd:=rfl) (hal:=rfl)
  ·intro v W' h
   simp[Af,Det,Am] at h
   simp
   exact h
  ·intro hp hx a W' hC hE
   obtain⟨_,⟨-,-,k1,-⟩,-⟩:=hC
   simp[hx] at hE
   simp[go_sem,Act.eval,iw,hE,k1,Jk,hz.out]
   try rfl
 apply Uw (OV 0 T) (hg:=rfl) (hd:=rfl) (hal:=rfl)
 ·exact OV.closed _ _
 ·intro v W' h
  simp at h
  exact h
 ·intro a W' hC hE
  obtain⟨hR9,k1⟩:=hC
  simp[Oper.looksAt,Op.operands,Call.operands,Af,Det,Am] at hE
  refine⟨_,_,?_,(H_c2.out W' (hW.trans (hR9.of_priv hW.size))).mono ?_⟩
  ·simp[go_sem,Act.eval,hE]
   try rfl
  ·rintro e w' ⟨v,rfl,hv,hB⟩
   exact⟨_,rfl,hB,hv.mono (Nat.zero_le _)⟩
 apply Yx (Det (.int .i64 (T.length:Int))) (hg:=rfl) (hd:=rfl) (hal:=rfl)
 ·exact Gn _ _
 ·intro v W' h
  simp at h
  exact h
 ·intro a W' hC hE
  simp[Oper.looksAt,Op.operands,Call.operands,Af,Det,Am] at hE
  obtain⟨h1,h2⟩:=hE
  obtain⟨p9,c9,e9,-,-,-,-⟩:=Bj.form h1
  refine⟨_,?_,rfl⟩
  simp[go_sem,Act.eval,e9]
 iterate 1
  apply Ai (p:=true) (hg:=rfl) (hd:=rfl) (hal:=rfl)
  ·intro v W' h
   simp[Af,Det,Am] at h
   simp
   exact h
  ·intro hp hx a W' hC hE
   obtain⟨_,⟨-,-,k1,-⟩,-⟩:=hC
   simp[hx] at hE
   simp[go_sem,Act.eval,iw,hE,k1,Jk,hz.out]
   try rfl
 refine pO ?_
 clear hW hL b1
 rintro W6 hW z7 hL
 simp only[ndR]
 intros
 repeat (rename Am _ _ _ _=>hgd;clear hgd)
 simp only[ndS]
 refine wpList_nil ?_
 obtain⟨⟨b1,yb1,k1,f1⟩,-⟩:=hL
 clear c2
 rw[show (false||(m:Int) !=(T.length:Int))=false by simp[hm.out]]
 have z77:=hW.size
 go_wp2_with fail
 refine(H_c3.out _ Aa).mono ?_
 rintro e w8 ⟨v9,rfl,hb8⟩
 have z9:=hb8.size
 try simp at z9
 clear k1 f1
 refine Aj w w8 (Bc w.heap.size #[.int .i64 4,.slice p len cap,A,R,n,d,.slice q m vc,E] 135<|Bz) ?_
 clear b1 hW
 rintro hW z10 ⟨⟨b1,yb1,k1,f1⟩,-⟩
 go_wp2
 refine bodyPost_ret (v:= .bool ok) (by simp[results,Tryz.results162,go_sem,k1,f1,yb1]) rfl ⟨rfl,hW⟩
theorem rr_line0 (K A R n d E:Int) (p q:Option Addr) (len cap m vc:Nat) (w:World) (hK:(K==4)=false) (hF:Hid ((decide (0<m)|| !Cy A R n d||K !=R4 R n)=true)) (hE0:0<=E) (hE1:E<=1099511627776) (c1:∀W,Below w.heap.size w W->Cb 177 #[.slice p len cap] W (.bool true)):
  Cb 162 #[.agg #[K,.slice p len cap,A,R,n,d,.slice q m vc,E]] w (.bool false):=by
 have H_c1:=Hd c1
 clear c1
 go_enter Tryz.func162,Tryz.ntmps162
 go_wp2_with fail
 refine(H_c1.out _ Aa).mono ?_
 rintro e w1 ⟨rfl,hb1⟩
 have z2:=hb1.size
 try simp at z2
 refine Aj w w1 (Bc w.heap.size #[K,.slice p len cap,A,R,n,d,.slice q m vc,E] 135<|Bz) ?_
 rintro hW z3 ⟨⟨b1,yb1,k1,f1⟩,-⟩
 clear hb1
 go_upto_region 6 with(fail)
 clear k1 f1
 refine Ab w (Bc w.heap.size #[K,.slice p len cap,A,R,n,d,.slice q m vc,E] 135<|Bz) ?_
 clear b1 hW
 rintro W4 hW z5 hL
 refine Bw 18 60 hW hL ?_
 iterate 5 refine dA ?_
 iterate 2 refine gA ?_
 refine cG (fun hp hx W' hC=>c_rline A R n d W') ?_
 refine gA ?_
 refine pO ?_
 refine dA ?_
 iterate 4 refine gA ?_
 refine cG (fun hp hx W' hC=>c_rkind A R n d W') ?_
 refine gA ?_
 refine pO ?_
 clear hW hL
 rintro W6 hW z7 hL
 simp only[ndR]
 intros
 repeat (rename Am _ _ _ _=>hgd;clear hgd)
 simp only[ndS]
 refine wpList_nil ?_
 obtain⟨⟨b1,yb1,k1,f1⟩,-⟩:=hL
 rw[hF.out]
 go_wp2
 refine bodyPost_ret (v:= .bool false) (by simp[results,Tryz.results162,go_sem,k1,f1,yb1]) rfl ⟨rfl,hW⟩
theorem rr_line1 (K A R n d E:Int) (p q:Option Addr) (len cap m vc:Nat) (w:World) (ok:Bool) (hK:(K==4)=false) (hF:Hid ((decide (0<m)|| !Cy A R n d||K !=R4 R n)=false)) (hE0:0<=E) (hE1:E<=1099511627776) (c1:∀W,Below w.heap.size w W->Cb 177 #[.slice p len cap] W (.bool true)) (c3:∀W,Below w.heap.size w W->Calls Tryz.prog 85 #[.agg #[K,.slice p len cap,A,R,n,d,.slice q m vc,E]] W fun e w'=>∃v,e= .returned (.tuple #[v,.bool ok])/\Below W.heap.size W w'):
  Cb 162 #[.agg #[K,.slice p len cap,A,R,n,d,.slice q m vc,E]] w (.bool ok):=by
 have H_c1:=Hd c1
 clear c1
 have H_c3:=Hd c3
 clear c3
 go_enter Tryz.func162,Tryz.ntmps162
 go_wp2_with fail
 refine(H_c1.out _ Aa).mono ?_
 rintro e w1 ⟨rfl,hb1⟩
 have z2:=hb1.size
 try simp at z2
 refine Aj w w1 (Bc w.heap.size #[K,.slice p len cap,A,R,n,d,.slice q m vc,E] 135<|Bz) ?_
 rintro hW z3 ⟨⟨b1,yb1,k1,f1⟩,-⟩
 clear hb1
 go_upto_region 6 with(fail)
 clear k1 f1
 refine Ab w (Bc w.heap.size #[K,.slice p len cap,A,R,n,d,.slice q m vc,E] 135<|Bz) ?_
 clear b1 hW
 rintro W4 hW z5 hL
 refine Bw 18 60 hW hL ?_
 iterate 5 refine dA ?_
 iterate 2 refine gA ?_
 refine cG (fun hp hx W' hC=>c_rline A R n d W') ?_
 refine gA ?_
 refine pO ?_
 refine dA ?_
 iterate 4 refine gA ?_
 refine cG (fun hp hx W' hC=>c_rkind A R n d W') ?_
 refine gA ?_
 refine pO ?_
 clear hW hL
 rintro W6 hW z7 hL
 simp only[ndR]
 intros
 repeat (rename Am _ _ _ _=>hgd;clear hgd)
 simp only[ndS]
 refine wpList_nil ?_
 obtain⟨⟨b1,yb1,k1,f1⟩,-⟩:=hL
 rw[hF.out]
 have z77:=hW.size
 go_wp2_with fail
 refine(H_c3.out _ Aa).mono ?_
 rintro e w8 ⟨v9,rfl,hb8⟩
 have z9:=hb8.size
 try simp at z9
 clear k1 f1
 refine Aj w w8 (Bc w.heap.size #[K,.slice p len cap,A,R,n,d,.slice q m vc,E] 135<|Bz) ?_
 clear b1 hW
 rintro hW z10 ⟨⟨b1,yb1,k1,f1⟩,-⟩
 go_wp2
 refine bodyPost_ret (v:= .bool ok) (by simp[results,Tryz.results162,go_sem,k1,f1,yb1]) rfl ⟨rfl,hW⟩
theorem rr_raw1 (A R n d E:Int) (p q:Option Addr) (len cap m vc:Nat) (w:World) (T:List Int) (hm:¬m=T.length) (hE0:0<=E) (hE1:E<=1099511627776) (hz:Hid (Ku A R n d=true)) (c1:∀W,Below w.heap.size w W->Cb 177 #[.slice p len cap] W (.bool true)) (c2:∀W,Below w.heap.size w W->Calls Tryz.prog 135 #[.slice p len cap] W fun e w'=>∃v,e= .returned v/\Bj w' W.heap.size 2 1 v T.length (T.map (Value.int .i64))/\Below W.heap.size W w'):
  Cb 162 #[.agg #[.int .i64 4,.slice p len cap,A,R,n,d,.slice q m vc,E]] w (.bool false):=by
 have H_c1:=Hd c1
 clear c1
 have H_c2:=Hd c2
 clear c2
 go_enter Tryz.func162,Tryz.ntmps162
 go_wp2_with fail
 refine(H_c1.out _ Aa).mono ?_
 rintro e w1 ⟨rfl,hb1⟩
 have z2:=hb1.size
 try simp at z2
 refine Aj w w1 (Bc w.heap.size #[.int .i64 4,.slice p len cap,A,R,n,d,.slice q m vc,E] 135<|Bz) ?_
 rintro hW z3 ⟨⟨b1,yb1,k1,f1⟩,-⟩
 clear hb1
 have c2:=H_c2.out
 go_upto_region 4 with(fail)
 clear k1 f1
 refine Ab w (Bc w.heap.size #[.int .i64 4,.slice p len cap,A,R,n,d,.slice q m vc,E] 135<|Bz) ?_
 clear b1 hW
 rintro W4 hW z5 hL
 obtain⟨⟨b1,yb1,k1,f1⟩,-⟩:=id hL
 clear k1 f1
 refine Bw 14 60 hW hL ?_
 iterate 5
  apply An (hg:=rfl) (hal:=rfl)
  ·intro a W' hC hE
   obtain⟨_,⟨-,-,k1,-⟩,-⟩:=hC
   first
    |(simp at hE;simp[go_sem,Act.eval,iw,hE,k1,Jk,hz.out];try rfl)
    |(clear hE;simp[go_sem,Act.eval,iw,k1,Jk,hz.out];try rfl)
 iterate 5
  apply Ai (p:=true) (hg:=rfl) (hd:=rfl) (hal:=rfl)
  ·intro v W' h
   simp[Af,Det,Am] at h
   simp
   exact h
  ·intro hp hx a W' hC hE
   obtain⟨_,⟨-,-,k1,-⟩,-⟩:=hC
   simp[hx] at hE
   simp[go_sem,Act.eval,iw,hE,k1,Jk,hz.out]
   try rfl
 apply Uw (OV 0 T) (hg:=rfl) (hd:=rfl) (hal:=rfl)
 ·exact OV.closed _ _
 ·intro v W' h
  simp at h
  exact h
 ·intro a W' hC hE
  obtain⟨hR9,k1⟩:=hC
  simp[Oper.looksAt,Op.operands,Call.operands,Af,Det,Am] at hE
  refine⟨_,_,?_,(H_c2.out W' (hW.trans (hR9.of_priv hW.size))).mono ?_⟩
  ·simp[go_sem,Act.eval,hE]
   try rfl
  ·rintro e w' ⟨v,rfl,hv,hB⟩
   exact⟨_,rfl,hB,hv.mono (Nat.zero_le _)⟩
 apply Yx (Det (.int .i64 (T.length:Int))) (hg:=rfl) (hd:=rfl) (hal:=rfl)
 ·exact Gn _ _
 ·intro v W' h
  simp at h
  exact h
 ·intro a W' hC hE
  simp[Oper.looksAt,Op.operands,Call.operands,Af,Det,Am] at hE
  obtain⟨h1,h2⟩:=hE
  obtain⟨p9,c9,e9,-,-,-,-⟩:=Bj.form h1
  refine⟨_,?_,rfl⟩
  simp[go_sem,Act.eval,e9]
 iterate 1
  apply Ai (p:=true) (hg:=rfl) (hd:=rfl) (hal:=rfl)
  ·intro v W' h
   simp[Af,Det,Am] at h
   simp
   exact h
  ·intro hp hx a W' hC hE
   obtain⟨_,⟨-,-,k1,-⟩,-⟩:=hC
   simp[hx] at hE
   simp[go_sem,Act.eval,iw,hE,k1,Jk,hz.out]
   try rfl
 refine pO ?_
 clear hW hL b1
 rintro W6 hW z7 hL
 simp only[ndR]
 intros
 repeat (rename Am _ _ _ _=>hgd;clear hgd)
 simp only[ndS]
 refine wpList_nil ?_
 obtain⟨⟨b1,yb1,k1,f1⟩,-⟩:=hL
 clear c2
 rw[show (false||(m:Int) !=(T.length:Int))=true by simp;omega]
 go_wp2
 refine bodyPost_ret (v:= .bool false) (by simp[results,Tryz.results162,go_sem,k1,f1,yb1]) rfl ⟨rfl,hW⟩
end Go.Proofs.YtdeghcgakkhbmaaGreat
namespace Go.Proofs.YtdeghcgakkhbmaaGreat
open Go.RowKit
theorem line_first {A R n d:Int} (h:Cy A R n d=true) (hn:n=0):R=0:=by
 unfold Cy at h
 simp only[Bool.and_eq_true,decide_eq_true_eq] at h
 obtain⟨⟨⟨⟨_,hs⟩,hg⟩,h0⟩,h1⟩:=h
 have:=Hv hs
 subst hn
 unfold Jn at hg
 simp at hg
 omega
theorem ends_iff {s:Aw} (hl:Cf s.runs) (hi:Cy s.A s.R s.n s.d=true):Hw s.A s.R s.n s.d 0 (C8 s.runs-Bv s.runs)=((Ae s.runs).map (Mj s)).all Ay:=by
 rw[Bool.eq_iff_iff]
 constructor
 ·intro h
  have hL:Oz s:=⟨hl,Jv.1 hi,h⟩
  rw[List.all_eq_true]
  intro y hy
  obtain⟨t,ht,rfl⟩:=List.mem_map.1 hy
  have:=Ju hl ht
  exact hL.back this.1 this.2.1
 ·intro h
  rw[List.all_eq_true] at h
  have hc:=D0 hl
  have key:∀i:Int,0<=i->i<cnt s.runs->Ay (Mj s (atV s.runs i))=true:=by
   intro i h0 h1
   obtain⟨v,_,hm,e,_⟩:=Ov hl h0 h1
   rw[e]
   exact h _ (List.mem_map_of_mem hm)
  have a:=key 0 (by omega) (by omega)
  have b:=key (cnt s.runs-1) (by omega) (by omega)
  unfold Hw
  unfold Mj Bv at a b
  rw[show atV s.runs 0-atV s.runs 0=0 by omega] at a
  rw[Bool.and_eq_true]
  exact⟨a,b⟩
theorem Tz {s:Aw} (hK:s.K≠4):Jo s=(Ae s.runs).map (Mj s):=by unfold Jo;rw[if_neg hK]
theorem Xs {s:Aw} (hK:s.K=4):Jo s=s.raw:=by unfold Jo;rw[if_pos hK]
theorem M8 {s:Aw} (hl:Cf s.runs) (hK:s.K≠4):Lh s=(!(decide (0<s.raw.length)|| !Cy s.A s.R s.n s.d||s.K !=R4 s.R s.n)&&(Jo s).all Ay):=by
 rw[Tz hK]
 unfold Lh Jd
 cases hi:Cy s.A s.R s.n s.d with
 |false=>simp[hK]
 |true=>
  rw[<-ends_iff hl hi]
  generalize Hw s.A s.R s.n s.d 0 (C8 s.runs-Bv s.runs)=e
  have hr:s.raw.isEmpty= !decide (0<s.raw.length):=by cases s.raw<;>simp
  rw[hr]
  unfold R4
  by_cases h1:s.n=0
  ·have h2:=line_first hi h1
   by_cases k1:s.K=1
   ·simp[h1,k1,Bool.and_comm]
   ·by_cases k2:s.K=2
    ·simp[h1,k2]
    ·by_cases k3:s.K=3
     ·simp[h1,h2,k3]
     ·simp[h1,k1,k2,k3,hK]
  ·by_cases h2:s.R=0
   ·by_cases k1:s.K=1
    ·simp[h1,h2,k1]
    ·by_cases k2:s.K=2
     ·simp[h1,h2,k2,Bool.and_comm]
     ·by_cases k3:s.K=3
      ·simp[h1,h2,k3]
      ·simp[h1,h2,k1,k2,k3,hK]
   ·by_cases k1:s.K=1
    ·simp[h1,h2,k1]
    ·by_cases k2:s.K=2
     ·simp[h1,h2,k2]
     ·by_cases k3:s.K=3
      ·simp[h1,h2,k3,Bool.and_comm]
      ·simp[h1,h2,k1,k2,k3,hK]
theorem Pj {s:Aw} (hK:s.K=4):Lh s=(Ku s.A s.R s.n s.d&&(s.raw.length:Int)==cnt s.runs&&(Jo s).all Ay):=by
 rw[Xs hK]
 unfold Lh
 simp[hK]
theorem Nf {p:Option Addr} {cap:Nat} {l:List Ah} {w:World} (hl:Cf l) (h:Al w p l) (hlen:l.length<=300):∀W,Below w.heap.size w W->Calls Tryz.prog 135 #[.slice p l.length cap] W fun e w'=>∃v,e= .returned v/\Bj w' W.heap.size 2 1 v (Ae l).length ((Ae l).map (Value.int .i64))/\Below W.heap.size W w':=by
 intro W hW
 have:=M1 p cap l W (h.below hW) (by omega)
 rw[Xt hl] at this
 exact this
def PtsDom (s:Aw):Prop:=(s.K=4/\(s.raw.length:Int)=cnt s.runs)∨(s.K≠4/\Cy s.A s.R s.n s.d=true)
theorem length_tl {l:List Ah} (hl:Cf l):1<=(Ae l).length/\(Ae l).length<=256:=by
 have h1:=Bk hl
 have h2:=D0 hl
 omega
theorem Zp (s:Aw) (p q:Option Addr) (cap vc:Nat) (w:World) (h:C0 w s p q) (hl:Cf s.runs) (hd:PtsDom s):
  Calls Tryz.prog 85 #[.agg (C9 s p q cap vc)] w (Xj w (Ae s.runs) (Jo s)):=by
 have ht:=Bk hl
 have h256:=length_tl hl
 have c1:=fun(W:World) (hW:Below w.heap.size w W)=>Nf (cap:=cap) hl h.runs h.fewR W hW
 rcases hd with⟨hK,hr⟩|⟨hK,hi⟩
 ·rw[Xs hK]
  obtain⟨b,o,e,_⟩:=h.raw.at' 0 _ (List.getElem?_eq_getElem (show 0<s.raw.length by omega))
  have hraw:=h.raw
  rw[e] at hraw
  have:=pts_raw s.A s.R s.n s.d s.E p s.runs.length cap b o vc (Ae s.runs) s.raw w ⟨hraw⟩ (by omega) h256.1 h256.2 c1
  unfold C9
  rw[hK,e]
  exact this
 ·rw[Tz hK]
  have hx0:(Ae s.runs)[0]? =some (Bv s.runs):=Ot hl (k:=0) (by omega)
  have hv:∀(i:Nat) (x y:Int),(Ae s.runs)[i]? =some x->((Ae s.runs).map (Mj s))[i]? =some y->0<=x-Bv s.runs/\x-Bv s.runs<=281474976710656/\y=Be s.A s.R s.n s.d (x-Bv s.runs):=by
   intro i x y hx hy
   rw[List.getElem?_map,hx] at hy
   have hm:=Ju hl (List.mem_of_getElem? hx)
   have hf:=Sa hl
   simp at hy
   exact⟨by omega,by omega,by rw[<-hy];rfl⟩
  refine pts_line s.K s.A s.R s.n s.d s.E (Bv s.runs) p q s.runs.length cap s.raw.length vc (Ae s.runs) _ w (by simp[hK]) (by simp) h256.1 h256.2 hx0 (fun x hx=>by have:=Ju hl hx;omega) c1 ?_ ?_
  ·intro W i x y hx hy hb
   obtain⟨a1,a2,rfl⟩:=hv i x y hx hy
   exact c_rat_yes hi a1 a2 hb W
  ·intro W i x y hx hy hb
   obtain⟨a1,a2,rfl⟩:=hv i x y hx hy
   exact c_rat_no hi a1 a2 hb W
theorem Sl (s:Aw) (p q:Option Addr) (cap vc:Nat) (w:World) (h:C0 w s p q) (hl:Cf s.runs) (hd:PtsDom s):
  Calls Tryz.prog 85 #[.agg (C9 s p q cap vc)] w fun e w'=>∃v,e= .returned (.tuple #[v,.bool ((Jo s).all Ay)])/\Below w.heap.size w w':=by
 refine(Zp s p q cap vc w h hl hd).mono ?_
 rintro e w' ⟨hB,⟨h1,v,rfl,_⟩|⟨h1,rfl⟩⟩
 ·exact⟨v,by rw[h1],hB⟩
 ·exact⟨_,by rw[h1],hB⟩
theorem c_refRight (s:Aw) (p q:Option Addr) (cap vc:Nat) (w:World) (h:C0 w s p q):
  Cb 162 #[.agg (C9 s p q cap vc)] w (.bool (Cr s)):=by
 have c1:=fun(W:World) (hW:Below w.heap.size w W)=>c_refright p cap s.runs W (by have:=h.fewR;omega) (h.runs.below hW)
 unfold Cr
 cases hr:Et s.runs with
 |false=>
  rw[hr] at c1
  rw[Bool.false_and]
  exact rr_no1 s.K s.A s.R s.n s.d s.E p q s.runs.length cap s.raw.length vc w c1
 |true=>
  rw[hr] at c1
  rw[Bool.true_and]
  have hl:=(Ei _).1 hr
  by_cases hE:s.E<0∨1099511627776<s.E
  ·rw[show (decide (0<=s.E)&&decide (s.E<=1099511627776)&&Lh s)=false by
    rcases hE with hE|hE
    ·rw[decide_eq_false (show¬0<=s.E by omega)];rfl
    ·rw[decide_eq_false (show¬s.E<=1099511627776 by omega),Bool.and_false];rfl]
   exact rr_no2 s.K s.A s.R s.n s.d s.E p q s.runs.length cap s.raw.length vc w hE c1
  ·have hE0:0<=s.E:=by omega
   have hE1:s.E<=1099511627776:=by omega
   rw[decide_eq_true hE0,decide_eq_true hE1,Bool.true_and,Bool.true_and]
   by_cases hK:s.K=4
   ·rw[Pj hK]
    have ht:=Bk hl
    have c2:=fun(W:World) (hW:Below w.heap.size w W)=>Nf (cap:=cap) hl h.runs h.fewR W hW
    cases hz:Ku s.A s.R s.n s.d with
    |false=>
     have:=rr_raw0 s.A s.R s.n s.d s.E p q s.runs.length cap s.raw.length vc w hE0 hE1 (Hd hz) c1
     unfold C9
     rw[hK]
     exact this
    |true=>
     by_cases hm:(s.raw.length:Int)=cnt s.runs
     ·rw[show ((s.raw.length:Int)==cnt s.runs)=true by simp[hm],Bool.true_and,Bool.true_and]
      have c3:=fun(W:World) (hW:Below w.heap.size w W)=>Sl s p q cap vc W (h.below hW) hl (.inl ⟨hK,hm⟩)
      unfold C9 at c3⊢
      rw[hK] at c3⊢
      exact rr_raw2 s.A s.R s.n s.d s.E p q s.runs.length cap s.raw.length vc w (Ae s.runs) _ (Hd (by omega)) hE0 hE1 (Hd hz) c1 c2 c3
     ·rw[show ((s.raw.length:Int)==cnt s.runs)=false by simp[hm],Bool.and_false,Bool.false_and]
      have:=rr_raw1 s.A s.R s.n s.d s.E p q s.runs.length cap s.raw.length vc w (Ae s.runs) (by omega) hE0 hE1 (Hd hz) c1 c2
      unfold C9
      rw[hK]
      exact this
   ·rw[M8 hl hK]
    cases hF:(decide (0<s.raw.length)|| !Cy s.A s.R s.n s.d||s.K !=R4 s.R s.n) with
    |true=>exact rr_line0 s.K s.A s.R s.n s.d s.E p q s.runs.length cap s.raw.length vc w (by simp[hK]) (Hd hF) hE0 hE1 c1
    |false=>
     have hi:Cy s.A s.R s.n s.d=true:=by
      cases hi:Cy s.A s.R s.n s.d with
      |true=>rfl
      |false=>rw[hi] at hF;simp at hF
     rw[Bool.not_false,Bool.true_and]
     exact rr_line1 s.K s.A s.R s.n s.d s.E p q s.runs.length cap s.raw.length vc w _ (by simp[hK]) (Hd hF) hE0 hE1 c1 (fun W hW=>Sl s p q cap vc W (h.below hW) hl (.inr ⟨hK,hi⟩))
theorem ptsDom_of {s:Aw} (hs:Cr s=true):PtsDom s:=by
 have hl:=Bp hs
 have hk:=O9 hs
 by_cases hK:s.K=4
 ·rw[Pj hK] at hk
  simp only[Bool.and_eq_true,beq_iff_eq] at hk
  exact .inl ⟨hK,hk.1.2⟩
 ·rw[M8 hl hK] at hk
  refine .inr ⟨hK,?_⟩
  cases hi:Cy s.A s.R s.n s.d with
  |true=>rfl
  |false=>rw[hi] at hk;simp at hk
theorem vals_all {s:Aw} (hs:Cr s=true):(Jo s).all Ay=true:=by
 have hl:=Bp hs
 have hk:=O9 hs
 by_cases hK:s.K=4
 ·rw[Pj hK] at hk
  simp only[Bool.and_eq_true] at hk
  exact hk.2
 ·rw[M8 hl hK] at hk
  simp only[Bool.and_eq_true] at hk
  exact hk.2
theorem Zq (s:Aw) (p q:Option Addr) (cap vc:Nat) (w:World) (h:C0 w s p q) (hs:Cr s=true):
  Calls Tryz.prog 85 #[.agg (C9 s p q cap vc)] w fun e w'=>∃v,e= .returned (.tuple #[v,.bool true])/\Bj w' w.heap.size 58 2 v (B9 s).length (Ax (B9 s))/\Below w.heap.size w w':=by
 have hl:=Bp hs
 refine(Zp s p q cap vc w h hl (ptsDom_of hs)).mono ?_
 rintro e w' ⟨hB,⟨_,v,rfl,hv⟩|⟨h1,_⟩⟩
 ·refine⟨v,rfl,?_,hB⟩
  rw[show (B9 s).length=(Ae s.runs).length by have a:=Gj hs;have b:=Bk hl;omega]
  exact hv
 ·rw[vals_all hs] at h1;cases h1
def toRel (w:World) (gs:Nat) (p:Option Addr) (cap:Nat) (l:List Int) (a':Act) (W:World):Prop:=
 Below w.heap.size w W/\∃(i:Nat) (S:Int) (ps:Option Addr) (ls cs:Nat),(∃u:Nat->Value,a'= {tmps:= #[.slice p l.length cap,u 1,.pointer (some ⟨w.heap.size,0,none⟩),.pointer (some ⟨gs,0,none⟩),.int .i64 (i:Int),u 5,u 6,u 7,u 8,u 9,u 10,u 11,u 12,u 13,u 14,u 15,u 16,u 17,u 18,u 19],defers:= []})/\S=He (l.take i)/\i<=l.length/\Blk W w.heap.size #[.bool false,.slice none 0 0] 115/\Blk W gs #[.bool (decide (S<0)),.slice ps ls cs] 115/\Av W (.slice ps ls cs) S.natAbs
section
variable {P:Program} {w:World}
theorem Qa (base:Nat) (t ty e:TypeId) (i:TypeInfo) (z:Value) (size bytes:Nat) (ht:P.underlying t=some (.slice e)) (hi:P.info? e=some i) (hz:i.zero=some z)
  (hsize:i.size=size) (hby:i.bytes=bytes) (hzs:z.cells.size=size) (hsz:0<size)
  (v:Value) (n:Nat) (xs:List Value) (hown:w.ownsRow base e size v n xs)
  (a:Addr) (m c:Nat) (news:List Value) (hl:news.length=m*size) (hnews:∀j u,news[j]? =some u->w.cell? (a.add j)=some u) (h1:∀u∈news,u.oneCell'=true)
  (h63:n+m<=maxLen) (hbytes:(n+m)*bytes<=140737488355328) (hbase:base<=w.heap.size):
  ∃v' w',(Builtin.append_ #[t,t] ty #[v,.slice (some a) m c]).run P w= .ok v' w'/\w'.ownsRow base e size v' (n+m) (xs++news)/\w.grownBy w' v.ownBlock/\
   (v'= .slice none 0 0↔v= .slice none 0 0/\m=0)/\(v'.ownBlock=v.ownBlock∨v'.ownBlock=some w.heap.size):=by
 obtain⟨v',w',hr,h2,h3,h4⟩:=run_append_own (P:=P) w base t ty e i z size bytes ht hi hz hsize hby hzs hsz v n xs hown a m c news hl hnews h1 h63 hbytes hbase
 refine⟨v',w',hr,h2,h3,h4,?_⟩
 subst hsize
 subst hby
 have hsmall:n+m<=9223372036854775807:=by simp only[maxLen] at h63;omega
 rcases hown.2 with⟨rfl,rfl⟩|⟨g,cap,cur,rfl,hbg,hg,hnc,hcm,hcs,htake⟩
 ·by_cases hm:m=0
  ·left
   rw[h4.2 ⟨rfl,hm⟩]
  ·have hr2:=run_append_nil (P:=P) w t ty e i z ht hi hz a m c news hl hnews (by omega) (by omega) (by have hb:=hbytes;simp only[Nat.zero_add] at hb;omega)
   rw[hr2] at hr
   injection hr with hr _
   subst hr
   right;rfl
 ·by_cases hroom:n+m<=cap
  ·have hfit:n*i.size+news.length<=cur.size:=by rw[hl,hcs,<-Nat.add_mul];exact Nat.mul_le_mul_right _ hroom
   have hr2:=run_append_room (P:=P) w t ty e i ht hi g n cap cur hg a m c news hl hnews h1 hroom hfit
   rw[hr2] at hr
   injection hr with hr _
   subst hr
   left;rfl
  ·have holds:∀j u,xs[j]? =some u->w.cell? ((⟨g,0,none⟩:Addr).add j)=some u:=hown.cells (g:=g) rfl
   have hr2:=run_append_grow (P:=P) w t ty e i z ht hi hz ⟨g,0,none⟩ n cap xs hown.1 holds a m c news hl hnews (by omega) (by omega) (growslice_fits (by omega) hbytes)
   rw[hr2] at hr
   injection hr with hr _
   subst hr
   right;rfl
theorem Hn {ops:Array Oper} {rest:List Oper} {o:Oper} {a:Act} {Q:Exit->Act->World->Prop} (hgd:o.guard=none) (s x:Operand) (t:TypeId)
  (ho:o.op= .call {callee:= .builtin .append,args:= #[s,x],argTypes:= #[t,t]})
  (base:Nat) (e:TypeId) (i:TypeInfo) (z:Value) (size bytes:Nat) (ht:P.underlying t=some (.slice e)) (hi:P.info? e=some i) (hz:i.zero=some z)
  (hsize:i.size=size) (hby:i.bytes=bytes) (hzs:z.cells.size=size) (hsz:0<size)
  (v:Value) (n:Nat) (xs:List Value) (hs:a.eval s=v) (hown:w.ownsRow base e size v n xs)
  (ad:Addr) (m c:Nat) (news:List Value) (hx:a.eval x= .slice (some ad) m c) (hl:news.length=m*size) (hnews:∀j u,news[j]? =some u->w.cell? (ad.add j)=some u) (h1:∀u∈news,u.oneCell'=true)
  (h63:n+m<=maxLen) (hbytes:(n+m)*bytes<=140737488355328) (hbase:base<=w.heap.size)
  (h:∀v' w',w'.ownsRow base e size v' (n+m) (xs++news)->w.grownBy w' v.ownBlock->(v'.ownBlock=v.ownBlock∨v'.ownBlock=some w.heap.size)->wpList P ops Q rest (a.put o.dst v') w'):wpList P ops Q (o::rest) a w:=by
 refine wpList_plain hgd fun K hK=> ?_
 obtain⟨v',w',hr,h2,h3,_,h4⟩:=Qa (P:=P) (w:=w) base t o.type e i z size bytes ht hi hz hsize hby hzs hsz v n xs hown ad m c news hl hnews h1 h63 hbytes hbase
 unfold Oper.wp
 simp[execOp,ho,resolve,invoke,builtin,hs,hx,hr,Result.andThen]
 exact hK _ _ (h v' w' h2 h3 h4)
end
def OneV (B:Nat) (d:Int):Bi:=fun v w=>∃g,v= .slice (some ⟨g,0,none⟩) 1 1/\B<=g/\Blk w g #[d] 2
theorem OneV.closed (B:Nat) (d:Int):A9 [] (OneV B d):=fun _ _ _ hr ⟨g,e1,h1,h⟩=>⟨g,e1,h1,h.rex hr (by simp)⟩
def Xn (v1 v2:Value):Prop:=∀g,v1.ownBlock=some g->v2.ownBlock=some g->False
theorem Xn.symm {v1 v2:Value} (h:Xn v1 v2):Xn v2 v1:=fun g a b=>h g b a
theorem P3 {B:Nat} {w0 w w':World} {r:Option Nat} (h:Below B w0 w) (hB:B<=w.heap.size) (hg:w.grownBy w' r) (hr:∀g,r=some g->B<=g):Below B w0 w':=
 h.trans ⟨hg.os,hg.tape,hg.output,hg.size,fun k hk=>hg.block k (by omega) fun e=>by have:=hr k e.symm;omega⟩
def loB (x:Ah):Int:=x.s-x.c
def hiB (x:Ah):Int:=x.s+x.c
def boRel (w:World) (p:Option Addr) (cap:Nat) (l:List Ah) (a':Act) (W:World):Prop:=
 Below w.heap.size w W/\∃(i:Nat) (v1 v2:Value),(∃u:Nat->Value,a'= {tmps:= #[.slice p l.length cap,u 1,.slice none 0 0,.slice none 0 0,v1,v2,.int .i64 (i:Int),u 7,u 8,u 9,u 10,u 11,u 12,u 13,u 14,u 15,u 16,u 17,u 18,u 19,u 20,u 21,u 22,u 23,u 24,u 25,u 26,u 27,u 28,u 29,u 30,u 31,u 32,u 33,u 34,u 35,u 36,u 37,u 38,u 39,u 40,u 41,u 42],defers:= []})/\i<=l.length/\
  Bj W w.heap.size 2 1 v1 i (((l.take i).map loB).map (Value.int .i64))/\Bj W w.heap.size 2 1 v2 i (((l.take i).map hiB).map (Value.int .i64))/\Xn v1 v2
attribute [local go_sem ↓] Go.wp_at_zero Go.wp_at_succ
structure D6 where
 r:At
 p:Option Addr
 cap:Nat
def rawRA (x:D6):Array Value:=Dw x.r x.p x.cap
def By (l:List D6):List Value:=l.flatMap fun x=>(rawRA x).toList
theorem L4 (x:D6):(rawRA x).toList.length=6:=rfl
theorem Kd (l:List D6):(By l).length=l.length*6:=by
 unfold By
 induction l with
 |nil=>rfl
 |cons x l ih=>rw[List.flatMap_cons,List.length_append,ih,L4,List.length_cons];omega
theorem Mr (l:List D6) (x:D6):By (l++ [x])=By l++(rawRA x).toList:=by
 unfold By
 rw[List.flatMap_append]
 simp
theorem Ke :∀(l:List D6) (i:Nat) (x:D6) (k:Nat) (u:Value),l[i]? =some x->(rawRA x)[k]? =some u->(By l)[i*6+k]? =some u
 | [],i,x,k,u,h,_=>by simp at h
 |y::l,0,x,k,u,h,hk=>by
  have e:y=x:=by simpa using h
  subst e
  have hlt:k<6:=by
   rcases Array.getElem?_eq_some_iff.1 hk with⟨h1,_⟩
   exact h1
  rw[By,List.flatMap_cons,Nat.zero_mul,Nat.zero_add,List.getElem?_append_left (by rw[L4];exact hlt),Array.getElem?_toList]
  exact hk
 |y::l,i+1,x,k,u,h,hk=>by
  have h1:=Ke l i x k u (by simpa using h) hk
  rw[By,List.flatMap_cons,List.getElem?_append_right (by rw[L4];omega),L4,show (i+1)*6+k-6=i*6+k by omega]
  exact h1
structure D3 (w:World) (p:Option Addr) (rows:List At):Prop where
 at':∀(i:Nat) (r:At),rows[i]? =some r->∃b o p' cap',p=some ⟨b,o,none⟩/\(∀j v,(Dw r p' cap')[j]? =some v->w.cell? ⟨b,o+i*6+j,none⟩=some v)/\Ar w p' r.pts/\r.pts.length<=cap'/\(p'=none->cap'=0)
theorem D3.below {w W:World} {p:Option Addr} {rows:List At} (h:D3 w p rows) (hb:Below w.heap.size w W):D3 W p rows:=⟨fun i r hr=>by
 obtain⟨b,o,p',cap',e,hc,hr,hp⟩:=h.at' i r hr
 exact⟨b,o,p',cap',e,fun j v hv=>((Dc hb).1 b _ (Ap (hc j v hv))).trans (hc j v hv),hr.below hb,hp⟩⟩
structure Fk (w:World) (B:Nat) (l:List D6):Prop where
 at':∀x,x∈l->Cc w B x.p x.r.pts/\x.r.pts.length<=x.cap/\(x.p=none->x.cap=0)
theorem Fk.below {w w':World} {B:Nat} {l:List D6} (h:Fk w B l) (hb:Below w.heap.size w w'):Fk w' B l:=⟨fun x hx=>⟨(h.at' x hx).1.below hb,(h.at' x hx).2⟩⟩
theorem Bj.raws {W:World} {B n:Nat} {e:TypeId} {p:Option Addr} {cap:Nat} {RL:List D6} (h:Bj W B e 6 (.slice p n cap) n (By RL)) (hP:Fk W B RL):D3 W p (RL.map (·.r)):=by
 rcases h.own.2 with⟨h1,h0⟩|⟨g,cap',cur,h1,hg,hb,hn,hmx,_,ht⟩
 ·have h2:=h.own.1
  rw[Kd,h0] at h2
  have:RL= []:=List.length_eq_zero_iff.1 (by omega)
  subst this
  exact⟨fun i r hr=>by simp at hr⟩
 ·injection h1 with h2 _ _
  subst h2
  refine⟨fun i r hr=> ?_⟩
  rw[List.getElem?_map] at hr
  obtain⟨x,hx,rfl⟩:=Option.map_eq_some_iff.1 hr
  have hm:=hP.at' x (List.mem_of_getElem? hx)
  refine⟨g,0,x.p,x.cap,rfl,fun j v hv=> ?_,hm.1.pts,hm.2⟩
  have h3:=Ke RL i x j v hx hv
  rw[cell_of_row W g _ cur e (0,0) hb,Nat.zero_add]
  exact Eh ht h3
structure H7 (w:World) (p:Option Addr) (rows:List At):Prop where
 at':∀(i:Nat) (r:At),rows[i]? =some r->∃b o p' cap',p=some ⟨b,o,none⟩/\(∀j v,(Dw r p' cap')[j]? =some v->w.cell? ⟨b,o+i*6+j,none⟩=some v)/\Jh w r p' cap'
theorem H7.below {w W:World} {p:Option Addr} {rows:List At} (h:H7 w p rows) (hb:Below w.heap.size w W):H7 W p rows:=⟨fun i r hr=>by
 obtain⟨b,o,p',cap',e,hc,hr⟩:=h.at' i r hr
 exact⟨b,o,p',cap',e,fun j v hv=>((Dc hb).1 b _ (Ap (hc j v hv))).trans (hc j v hv),hr.below hb⟩⟩
theorem Tryz.infoRaw :(Tryz.prog.info? 35).map (fun i=>(i.zero,i.size,i.bytes))=some (some (.agg #[.string .empty,.int .i64 0,.int .i64 0,.int .i64 0,.int .i64 0,.slice none 0 0]),6,72):=by kernel_rfl
theorem Gh {W:World} {B g s n:Nat} {e t:TypeId} {v:Value} {xs:List Value} {cs:Array Value} (h:W.ownsRow B e s v n xs) (hb:Blk W g cs t) (hne:t≠e):v.ownBlock≠some g:=fun hv=>by
 rcases h.2 with⟨rfl,_⟩|⟨g',cap,cur,rfl,_,hg,_⟩
 ·simp[Value.ownBlock] at hv
 ·simp[Value.ownBlock] at hv
  subst hv
  rw[show W.heap[g']? =some (.cells cs t (0,0)) from hb] at hg
  injection hg with hg
  injection hg with _ h2 _
  exact hne h2
theorem Bj.setX {w:World} {B o j n s:Nat} {e:TypeId} {v u:Value} {xs:List Value} (h:Bj w B e s v n xs) (hne:v.ownBlock≠some o):Bj (w.setCell ⟨o,j,none⟩ u) B e s v n xs:=by
 refine⟨h.own.1,?_⟩
 rcases h.own.2 with h0|⟨g,cap,cur,rfl,hB,hg,h1,h2,h3,h4⟩
 ·exact .inl h0
 ·refine .inr ⟨g,cap,cur,rfl,hB,?_,h1,h2,h3,h4⟩
  exact(Below.heap_setCell _ _ _ _ (by rintro rfl;exact hne rfl)).trans hg
theorem Cc.other {w:World} {B o j:Nat} {cs:Array Value} {t:TypeId} {u:Value} {p:Option Addr} {l:List (Int×Int)} (h:Cc w B p l) (hb:Blk w o cs t) (ht:t≠58):Cc (w.setCell ⟨o,j,none⟩ u) B p l:=h.keep fun g c _ hg=>Blk.setO hg (g:=o) (by
 rintro rfl
 have h1:w.heap[g]? =some (.cells c 58 (0,0)):=hg
 have h2:w.heap[g]? =some (.cells cs t (0,0)):=hb
 rw[h1] at h2
 injection h2 with h2
 injection h2 with _ h3 _
 exact ht h3.symm) _ _
theorem Yq {w W w2 w9:World} {RL:List D6} {vp p':Option Addr} {vc cap' gg cp:Nat} {r:At} {A Bq:Array Value} {o:Obj} (hb:Below w.heap.size w W) (b1:Blk W w.heap.size A 27) (b2:Blk W (w.heap.size+1) Bq 27)
  (b3:Blk W (w.heap.size+1+1) #[.slice vp RL.length vc] 27) (b5:Bj W w.heap.size 35 6 (.slice vp RL.length vc) RL.length (By RL)) (b6:Fk W w.heap.size RL) (hz:w.heap.size<=W.heap.size)
  (hB2:Below W.heap.size W w2) (hPt:Cc w2 W.heap.size p' r.pts) (hcp:r.pts.length<=cap'/\(p'=none->cap'=0))
  (hown1:w9.ownsRow w.heap.size 35 6 (.slice (some ⟨gg,0,none⟩) (RL.length+1) cp) (RL.length+1) (By RL++(Dw r p' cap').toList))
  (hgrow:(w2.alloc o).grownBy w9 (Value.slice vp RL.length vc).ownBlock):
  Below w.heap.size w (w9.setCell ⟨(w.heap.size+1+1),0,none⟩ (.slice (some ⟨gg,0,none⟩) (RL.length+1) cp))/\Blk (w9.setCell ⟨(w.heap.size+1+1),0,none⟩ (.slice (some ⟨gg,0,none⟩) (RL.length+1) cp)) w.heap.size A 27/\Blk (w9.setCell ⟨(w.heap.size+1+1),0,none⟩ (.slice (some ⟨gg,0,none⟩) (RL.length+1) cp)) (w.heap.size+1) Bq 27/\
   Blk (w9.setCell ⟨(w.heap.size+1+1),0,none⟩ (.slice (some ⟨gg,0,none⟩) (RL.length+1) cp)) (w.heap.size+1+1) #[.slice (some ⟨gg,0,none⟩) (RL.length+1) cp] 27/\
   Bj (w9.setCell ⟨(w.heap.size+1+1),0,none⟩ (.slice (some ⟨gg,0,none⟩) (RL.length+1) cp)) w.heap.size 35 6 (.slice (some ⟨gg,0,none⟩) (RL.length+1) cp) (RL++ [(⟨r,p',cap'⟩:D6)]).length (By (RL++ [(⟨r,p',cap'⟩:D6)]))/\
   Fk (w9.setCell ⟨(w.heap.size+1+1),0,none⟩ (.slice (some ⟨gg,0,none⟩) (RL.length+1) cp)) w.heap.size (RL++ [(⟨r,p',cap'⟩:D6)]):=by
 have ho0:=(b5.below hB2).own
 have ho:(w2.alloc o).ownsRow w.heap.size 35 6 (.slice vp RL.length vc) RL.length (By RL):=ho0.alloc _
 have hs:=hB2.size
 have hbl:Below w.heap.size w w9:=Below.grown ((hb.trans (hB2.mono hz)).alloc (by omega) o) hgrow (by(have:(w2.alloc o).heap.size=w2.heap.size+1:=Array.size_push _);omega) (fun k hk=>by
  rcases ho.2 with⟨e,_⟩|⟨g',c9,cur,e,hge,_⟩
  ·injection e with e _ _;subst e;simp[Value.ownBlock] at hk
  ·injection e with e _ _;subst e;simp[Value.ownBlock] at hk;omega)
 have q1:=Blk.grown (b1.below hB2) ho0 (by decide) hgrow
 have q2:=Blk.grown (b2.below hB2) ho0 (by decide) hgrow
 have q3:=Blk.grown (b3.below hB2) ho0 (by decide) hgrow
 have kp:∀ {p:Option Addr} {l:List (Int×Int)},Cc w2 w.heap.size p l->Cc w9 w.heap.size p l:=fun h=>h.keep fun g c _ hg=>Blk.grown hg ho0 (by decide) hgrow
 have hR:Bj w9 w.heap.size 35 6 (.slice (some ⟨gg,0,none⟩) (RL.length+1) cp) (RL++ [(⟨r,p',cap'⟩:D6)]).length (By (RL++ [(⟨r,p',cap'⟩:D6)])):=by
  rw[Mr,List.length_append]
  exact⟨hown1⟩
 refine⟨hbl.setCell (by simp;omega) _,q1.setO (by omega) _ _,q2.setO (by omega) _ _,q3.set2 (by rfl),hR.setX (Gh hR.own q3 (by decide)),⟨fun x hx=> ?_⟩⟩
 rcases List.mem_append.1 hx with h1|h1
 ·exact⟨(kp ((b6.below hB2).at' x h1).1).other q3 (by decide),(b6.at' x h1).2⟩
 ·rw[List.mem_singleton.1 h1]
  exact⟨(kp (hPt.mono hz)).other q3 (by decide),hcp⟩
theorem own28_take {rows:List At} {RL:List D6} {i:Nat} {r0:At} {p':Option Addr} {cap':Nat} (h:RL.map (·.r)=(rows.take (min i 9)).map Ej) (hr:rows[i]? =some r0) (hi:i<=8):
  (RL++ [(⟨Ej r0,p',cap'⟩:D6)]).map (·.r)=(rows.take (min (i+1) 9)).map Ej:=by
 rw[List.map_append,h,show min i 9=i by omega,show min (i+1) 9=i+1 by omega,List.take_add_one,hr,List.map_append]
 rfl
theorem own28_more {rows:List At} {RL:List D6} {i:Nat} (h:RL.map (·.r)=(rows.take (min i 9)).map Ej) (hi:¬i<=8):RL.map (·.r)=(rows.take (min (i+1) 9)).map Ej:=by
 rw[h,show min i 9=9 by omega,show min (i+1) 9=9 by omega]
theorem Uo {rows:List At} {RL:List D6} {i:Nat} (h:RL.map (·.r)=(rows.take (min i 9)).map Ej) (hi:rows.length<=i):RL.map (·.r)=(rows.take 9).map Ej:=by
 rw[h]
 rcases Nat.le_total i 9 with h1|h1
 ·rw[show min i 9=i by omega,List.take_of_length_le (by omega),List.take_of_length_le (by omega)]
 ·rw[show min i 9=9 by omega]
def Wd (w:World) (p:Option Addr) (cap:Nat) (rows:List At) (a':Act) (W:World):Prop:=
 Below w.heap.size w W/\Blk W w.heap.size #[.slice p rows.length cap] 27/\Blk W (w.heap.size+1) #[.slice none 0 0] 27/\∃(i:Nat) (v:Value) (RL:List D6),(∃u:Nat->Value,a'= {tmps:= #[u 0,.pointer (some ⟨w.heap.size,0,none⟩),.pointer (some ⟨(w.heap.size+1),0,none⟩),.pointer (some ⟨(w.heap.size+1+1),0,none⟩),u 4,u 5,u 6,.slice p rows.length cap,.int .i64 (rows.length:Int),.int .i64 (i:Int),u 10,u 11,u 12,u 13,u 14,u 15,u 16,u 17,u 18,u 19,u 20,u 21,u 22,u 23,u 24],defers:= []})/\Blk W (w.heap.size+1+1) #[v] 27/\
  Bj W w.heap.size 35 6 v RL.length (By RL)/\Fk W w.heap.size RL/\RL.map (·.r)=(rows.take (min i 9)).map Ej/\i<=rows.length
def Ew (B:Nat) (rows:List At):Bi:=fun v w=>∃(p:Option Addr) (c:Nat) (RL:List D6),v= .agg #[.slice p rows.length c]/\Bj w B 35 6 (.slice p rows.length c) rows.length (By RL)/\Fk w B RL/\RL.map (·.r)=rows
theorem Ew.below {B:Nat} {rows:List At} {v:Value} {w w':World} (h:Ew B rows v w) (hb:Below w.heap.size w w'):Ew B rows v w':=by
 obtain⟨p,c,RL,e,h1,h2,h3⟩:=h
 exact⟨p,c,RL,e,h1.below hb,h2.below hb,h3⟩
theorem Ew.closed (B:Nat) (rows:List At):A9 [] (Ew B rows):=fun _ _ _ hr h=>h.below hr.below
theorem Ew.rex {L:List Nat} {B:Nat} {rows:List At} {v:Value} {w w':World} (h:Ew B rows v w) (hr:Rex L w w') (hL:L= []):Ew B rows v w':=by subst hL;exact h.below hr.below
theorem Ew.drew {B:Nat} {rows:List At} {v:Value} {w:World} (h:Ew B rows v w):Ew B rows v w.drew:=h.below (Below.drew (Below.refl _ w))
theorem Ew.mono {B B':Nat} {rows:List At} {v:Value} {w:World} (h:Ew B rows v w) (hB:B'<=B):Ew B' rows v w:=by
 obtain⟨p,c,RL,e,h1,h2,h3⟩:=h
 exact⟨p,c,RL,e,h1.mono hB,⟨fun x hx=>⟨(h2.at' x hx).1.mono hB,(h2.at' x hx).2⟩⟩,h3⟩
theorem Ew.store {B o j:Nat} {rows:List At} {v u:Value} {w:World} {cs:Array Value} {t:TypeId} (h:Ew B rows v w) (hb:Blk w o cs t) (h1:t≠35) (h2:t≠58):Ew B rows v (w.setCell ⟨o,j,none⟩ u):=by
 obtain⟨p,c,RL,e,g1,g2,g3⟩:=h
 exact⟨p,c,RL,e,g1.setX (Gh g1.own hb h1),⟨fun x hx=>⟨(g2.at' x hx).1.other hb h2,(g2.at' x hx).2⟩⟩,g3⟩
theorem Ew.form {B:Nat} {rows:List At} {v:Value} {w:World} (h:Ew B rows v w):∃(p:Option Addr) (c:Nat),v= .agg #[.slice p rows.length c]/\D3 w p rows/\(p=none->c=0):=by
 obtain⟨p,c,RL,e,h1,h2,h3⟩:=h
 have h4:=h1.raws h2
 rw[h3] at h4
 obtain⟨p2,c2,e2,-,-,hn,-⟩:=h1.form
 injection e2 with e3 _ e4
 exact⟨p,c,e,h4,fun e5=>by rw[e4];exact(hn (e3▸e5)).2⟩
theorem c_own28M (p:Option Addr) (cap:Nat) (rows:List At) (w:World) (h:H7 w p rows) (hmx:rows.length<=9223372036854775807):
  Calls Tryz.prog 9 #[.agg #[.slice p rows.length cap]] w fun e w'=>∃v,e= .returned v/\Below w.heap.size w w'/\Ew w.heap.size ((rows.take 9).map Ej) v w':=by
 obtain⟨i0,hi0,hz0,hz1,hz2⟩:=info_parts Tryz.infoRaw
 go_enter Tryz.func9,Tryz.ntmps9
 go_upto_region 2 with(fail)
 refine Ab w (Bc w.heap.size #[.slice p rows.length cap] 27<|Bc (w.heap.size+1) #[.slice none 0 0] 27<|Bc (w.heap.size+1+1) #[.slice none 0 0] 27<|Bz) ?_
 rintro W1 hW z2 ⟨⟨b1,yb1,k1,f1⟩,⟨b2,yb2,k2,f2⟩,⟨b3,yb3,k3,f3⟩,-⟩
 go_wp2
 clear k1 f1 k2 f2 k3 f3
 refine wp_loop (Wd w p cap rows) (fun a' _=>rows.length-(Ag (a'.tmps.getD 9 undef)).toNat) ?_ ?_
 ·unfold Wd
  exact⟨hW,b1,b2,0,_,[],Ac rfl,b3,Bj.nil _ _ _ _,⟨fun x hx=>by cases hx⟩,by simp,Nat.zero_le _⟩
 clear b1 b2 b3 hW
 rintro a' W ⟨hW,b1,b2,i,v,RL,⟨u,rfl⟩,b3,hown,hrows,hRL,hi'⟩
 have hz:=hW.size
 have yb1:=b1.lt
 have yb2:=b2.lt
 have yb3:=b3.lt
 have hlR:RL.length<=9:=by
  have e:=congrArg List.length hRL
  rw[List.length_map,List.length_map,List.length_take] at e
  omega
 rcases Nat.lt_or_ge i rows.length with hlt|hge
 ·obtain⟨r0,tr⟩:∃x,rows[i]? =some x:=⟨rows[i]'(by omega),List.getElem?_eq_getElem (by omega)⟩
  obtain⟨b0,o0,p0,c0,rfl,hcs,hcm⟩:=(h.below hW).at' i _ tr
  have q0:W.cell? ⟨b0,o0+i*6,none⟩=some (.string r0.name):=hcs 0 _ rfl
  have q1:W.cell? ⟨b0,o0+i*6+1,none⟩=some (r0.eps):=hcs 1 _ rfl
  have q2:W.cell? ⟨b0,o0+i*6+2,none⟩=some (r0.floor):=hcs 2 _ rfl
  have q3:W.cell? ⟨b0,o0+i*6+3,none⟩=some (r0.last):=hcs 3 _ rfl
  have q4:W.cell? ⟨b0,o0+i*6+4,none⟩=some (r0.scale):=hcs 4 _ rfl
  have q5:W.cell? ⟨b0,o0+i*6+5,none⟩=some (.slice p0 r0.pts.length c0):=hcs 5 _ rfl
  have zq:=Ap q0
  try simp only at zq
  clear hcs
  by_cases h9:i<=8
  ·
   have k1:=b1.cell
   have f1:=b1.frozen
   have k2:=b2.cell
   have f2:=b2.frozen
   have k3:=b3.cell
   have f3:=b3.frozen
   have hneA:v.ownBlock≠some (w.heap.size+1+1):=Gh hown.own b3 (by decide)
   have hneB:v.ownBlock≠some W.heap.size:=fun e=>by have:=(hown.own.lt _ e).2;omega
   go_upto_region 6 with(fail)
   clear k1 f1 k2 f2 k3 f3
   refine Ab w (Bc w.heap.size #[.slice (some ⟨b0,o0,none⟩) rows.length cap] 27<|Bc (w.heap.size+1) #[.slice none 0 0] 27<|Bc (w.heap.size+1+1) #[v] 27<|Bc W.heap.size #[.string r0.name,r0.eps,r0.floor,r0.last,r0.scale,.slice p0 r0.pts.length c0] 35<|Rc (fun W'=>Bj W' w.heap.size 35 6 v RL.length (By RL))<|Rc (fun W'=>Fk W' w.heap.size RL)<|Rc (fun W'=>Jh W' r0 p0 c0)<|Bz) ?_ (hI:=by exact Aa) (hR:=(Bc.mk (by exact Ad)<|Bc.mk (by exact Ad)<|Bc.mk (by exact Ad)<|Bc.mk (by exact Ad)<|Rc.mk (by exact hown.below (by exact Aa))<|Rc.mk (by exact hrows.below (by exact Aa))<|Rc.mk (by exact hcm.below (by exact Aa))<|trivial))
   clear b1 b2 b3 hW
   rintro W21 hW z22 ⟨⟨b1,yb1,k1,f1⟩,⟨b2,yb2,k2,f2⟩,⟨b3,yb3,k3,f3⟩,⟨b4,yb4,k4,f4⟩,b5,b6,b7,-⟩
   obtain⟨vp,vc,rfl,-,-,-,-⟩:=b5.form
   have g0:=k3 0
   have gf:=f3 0
   have g1:=k4 0
   have g2:=k4 1
   have g3:=k4 2
   have g4:=k4 3
   have g5:=k4 4
   have g6:=k4 5
   simp only[List.getElem?_toArray,List.getElem?_cons_zero,List.getElem?_cons_succ] at g0 g1 g2 g3 g4 g5 g6
   clear k1 k2 k3 k4 f1 f2 f3 f4
   have c2':=Hd (fun X (hX:Below W21.heap.size W21 X)=>c_raw28N r0 p0 c0 X (b7.below hX))
   unfold Dw at c2'
   clear q0 q1 q2 q3 q4 q5 hcm h b7
   go_region_law
    (first
     |(refine step_append_lies _ (by rfl) _ _ _ (by rfl) w.heap.size 35 i0 _ 6 72 (by kernel_rfl) hi0 hz0 hz1 hz2 rfl (by omega) _ RL.length (By RL) (by rfl) (((b5.below (Below.drew (Below.refl _ W21))).below hB2).own.alloc _) ⟨w2.heap.size,0,none⟩ 1 1 (Dw (Ej r0) p' cap').toList (by rfl) (by rfl) (World.news_of_block (cs:=Dw (Ej r0) p' cap') (t:=35) (fr:=(0,0)) (heap_alloc_new w2 _)) (by simp[Value.oneCell',Dw]) (by omega) (by simp[maxLen];omega) (by omega) (by simp;omega) (w2.heap.size+1) (by simp) ?_;intro gg cp w9 hown1 hgrow hat hlt9;have gk9:=hgrow.cell_far ⟨w.heap.size+1+1,0,none⟩ (by simp;omega) (by first|exact Ne.symm hneA|exact Ne.symm hneB);have gf9:=hgrow.frozen_far ⟨w.heap.size+1+1,0,none⟩ (by simp;omega) (by first|exact Ne.symm hneA|exact Ne.symm hneB);rw[World.cell?_alloc_lt _ _ _ (by simp;omega),gk0] at gk9;rw[World.frozen?_alloc_past _ _ _ (by omega)] at gf9;rw[gkf] at gf9)
     |(go_simp;go_wp2_with (go_at_call 14;refine(c2'.out _ (by first|exact Below.refl _ _|exact Below.drew (Below.refl _ _)|exact Aa)).mono ?_;rintro e w2 ⟨p',cap',rfl,hB2,hPt,hcp⟩;have hz2':=hB2.size;try simp at hz2');have gk0:=((Dc hB2).1 _ _ (by simp;omega)).trans g0;have gkf:=((Dc hB2).2 _ _ (by simp;omega)).trans gf;have gka:=fun(o:Obj)=>(World.cell?_alloc_lt w2 o ⟨w.heap.size+1+1,0,none⟩ (by simp;omega)).trans gk0))
   all_goals (
    clear hneA hneB hown
    obtain⟨e1,e2,e3,e4,e5,e6⟩:=Yq (W:=W21.drew) (Below.drew hW) b1 b2 b3 b5.drew (b6.below (Below.drew (Below.refl _ W21))) (Below.drew hW).size hB2 hPt hcp hown1 hgrow
    have e7:=e1.size
    clear hown1 hgrow gk9 gf9 hB2 hPt hcp b1 b2 b3 b4 b5 b6 hW gka gk0 gkf
    generalize w9.setCell _ _=W9 at e1 e2 e3 e4 e5 e6 e7⊢
    go_wp2
    refine⟨?_,by simp[Ag];omega⟩
    unfold Wd
    exact⟨e1,e2,e3,i+1,_,RL++ [(⟨Ej r0,p',cap'⟩:D6)],Ac rfl,e4,e5,e6,own28_take hRL tr (by omega),hlt⟩)
  ·
   have k1:=b1.cell
   have f1:=b1.frozen
   have k2:=b2.cell
   have f2:=b2.frozen
   have k3:=b3.cell
   have f3:=b3.frozen
   have hr0:=Hd hRL
   clear hRL h hcm
   go_upto_region 5 with(fail)
   clear k1 f1 k2 f2 k3 f3
   refine Ab w (Bc w.heap.size #[.slice (some ⟨b0,o0,none⟩) rows.length cap] 27<|Bc (w.heap.size+1) #[.slice none 0 0] 27<|Bc (w.heap.size+1+1) #[v] 27<|Rc (fun W'=>Bj W' w.heap.size 35 6 v RL.length (By RL))<|Rc (fun W'=>Fk W' w.heap.size RL)<|Bz) ?_ (hI:=by exact Aa) (hR:=(Bc.mk (by exact Ad)<|Bc.mk (by exact Ad)<|Bc.mk (by exact Ad)<|Rc.mk (by exact hown.below (by exact Aa))<|Rc.mk (by exact hrows.below (by exact Aa))<|trivial))
   clear b1 b2 b3 hW
   rintro W21 hW z22 ⟨⟨b1,yb1,k1,f1⟩,⟨b2,yb2,k2,f2⟩,⟨b3,yb3,k3,f3⟩,b4,b5,-⟩
   clear k1 f1 k2 f2 k3 f3
   go_wp2
   have hw1:wrap64 ((i:Int)+1)=(i:Int)+1:=by simp only[Ak];omega
   try simp only[hw1]
   clear hmx hw1
   refine⟨?_,by simp[Ag];omega⟩
   unfold Wd
   exact⟨hW,b1,b2,i+1,v,RL,Ac rfl,b3,b4,b5,own28_more hr0.out (by omega),hlt⟩
 ·have hlen:rows.length<=i:=by omega
  obtain⟨vp,vc,rfl,-,-,-,-⟩:=hown.form
  have k1:=b1.cell
  have f1:=b1.frozen
  have k2:=b2.cell
  have f2:=b2.frozen
  have k3:=b3.cell
  have f3:=b3.frozen
  go_wp2
  have d1:Below w.heap.size w (W.setCell ⟨w.heap.size+1,0,none⟩ (.slice vp RL.length vc)):=Aa
  have d2:Blk (W.setCell ⟨w.heap.size+1,0,none⟩ (.slice vp RL.length vc)) (w.heap.size+1) #[.slice vp RL.length vc] 27:=b2.set2 (by rfl)
  have d3:Bj (W.setCell ⟨w.heap.size+1,0,none⟩ (.slice vp RL.length vc)) w.heap.size 35 6 (.slice vp RL.length vc) RL.length (By RL):=hown.setX (Gh hown.own b2 (by decide))
  have d4:Fk (W.setCell ⟨w.heap.size+1,0,none⟩ (.slice vp RL.length vc)) w.heap.size RL:=⟨fun x hx=>⟨(hrows.at' x hx).1.other b2 (by decide),(hrows.at' x hx).2⟩⟩
  have d6:((rows.take 9).map Ej).length=RL.length:=by rw[<-Uo hRL hlen,List.length_map]
  have d0:=d2.cell 0
  simp only[List.getElem?_toArray,List.getElem?_cons_zero] at d0
  refine bodyPost_ret (v:= .agg #[.slice vp RL.length vc]) (by simp[results,Tryz.results9,go_sem,d0]) rfl ⟨_,rfl,d1,vp,vc,RL,by rw[d6],by rw[d6];exact d3,d4,Uo hRL hlen⟩
structure K0 where
 nm:ByteArray
 ep:Int
 fl:Int
 la:Int
 sc:Int
 rows:List Cn
 pts:List (Int×Int)
def Uc (x:K0) (ps:Option Addr) (cs:Nat) (po:Option Addr) (co:Nat):Array Value:= #[.string x.nm,x.ep,x.fl,x.la,x.sc,.slice ps x.rows.length cs,.slice po x.pts.length co]
def Fw (x:K0):A8:=Ym x.nm x.ep x.fl x.la x.sc x.rows x.pts
structure Gy (w:World) (x:K0) (ps:Option Addr) (cs:Nat) (po:Option Addr) (co:Nat):Prop where
 came:Qz w ps po cs co x.rows x.pts
 maxS:x.rows.length*96<=140737488355328
 maxP:x.pts.length*16<=140737488355328
theorem Gy.below {w w':World} {x:K0} {ps:Option Addr} {cs:Nat} {po:Option Addr} {co:Nat} (h:Gy w x ps cs po co) (hb:Below w.heap.size w w'):Gy w' x ps cs po co:=⟨h.came.below hb,h.maxS,h.maxP⟩
theorem c_series28 (x:K0) (ps:Option Addr) (cs:Nat) (po:Option Addr) (co:Nat) (w:World) (h:Gy w x ps cs po co):
  Calls Tryz.prog 38 #[.agg (Uc x ps cs po co)] w fun e w'=>∃pS capS pP capP,e= .returned (.agg (Dy (Fw x) pS capS pP capP))/\Below w.heap.size w w'/\Kz w' (Fw x) pS pP:=by
 have l1:((x.rows.take (min x.rows.length 12)).map fun r=>Yn r.s).length=min x.rows.length 12:=by rw[List.length_map,List.length_take];omega
 have l2:(x.pts.take (min x.pts.length 40)).length=min x.pts.length 40:=by rw[List.length_take];omega
 refine(series28_w x.nm x.ep x.fl x.la x.sc ps po cs co x.rows x.pts w (min x.rows.length 12) (min x.pts.length 40) h.came.segs h.came.opn h.came.nilS h.came.nilO h.maxS h.maxP (by omega) (by omega) (Hd (by split<;>omega)) (by omega) (by omega) (by omega) (Hd (by split<;>omega)) (by omega) _ (Hd rfl)).mono ?_
 rintro e w' ⟨gS,capS,pP,capP,rfl,hB,hS⟩
 obtain⟨h1,h2,h3⟩:=hS.now
 refine⟨_,capS,pP,capP,?_,hB,⟨h1.segs,h2,?_,?_⟩,.inr ⟨gS,rfl,h1⟩,h3⟩
 ·unfold Dy Fw Ym
  simp only[l1,l2]
 ·show ((x.rows.take (min x.rows.length 12)).map fun r=>Yn r.s).length<=100
  omega
 ·show (x.pts.take (min x.pts.length 40)).length<=100
  omega
structure H9 where
 s:A8
 ps:Option Addr
 cs:Nat
 po:Option Addr
 co:Nat
def X7 (x:H9):Array Value:=Dy x.s x.ps x.cs x.po x.co
def Cq (l:List H9):List Value:=l.flatMap fun x=>(X7 x).toList
theorem Ub (x:H9):(X7 x).toList.length=7:=rfl
theorem Wq (l:List H9):(Cq l).length=l.length*7:=by
 unfold Cq
 induction l with
 |nil=>rfl
 |cons x l ih=>rw[List.flatMap_cons,List.length_append,ih,Ub,List.length_cons];omega
theorem Th (l:List H9) (x:H9):Cq (l++ [x])=Cq l++(X7 x).toList:=by
 unfold Cq
 rw[List.flatMap_append]
 simp
theorem Oe (l:List H9) (i:Nat) (x:H9) (k:Nat) (u:Value) (h:l[i]? =some x) (hk:(X7 x)[k]? =some u):(Cq l)[i*7+k]? =some u:=
 Wo _ 7 Ub l i x k u h (by rw[Array.getElem?_toList];exact hk)
structure Gr (w:World) (p:Option Addr) (rows:List A8):Prop where
 at':∀(i:Nat) (s:A8),rows[i]? =some s->∃b o ps cs po co,p=some ⟨b,o,none⟩/\(∀j v,(Dy s ps cs po co)[j]? =some v->w.cell? ⟨b,o+i*7+j,none⟩=some v)/\Dj w s ps po
theorem Gr.below {w W:World} {p:Option Addr} {rows:List A8} (h:Gr w p rows) (hb:Below w.heap.size w W):Gr W p rows:=⟨fun i s hs=>by
 obtain⟨b,o,ps,cs,po,co,e,hc,hr⟩:=h.at' i s hs
 exact⟨b,o,ps,cs,po,co,e,fun j v hv=>((Dc hb).1 b _ (Ap (hc j v hv))).trans (hc j v hv),hr.below hb⟩⟩
structure Eb (w:World) (l:List H9):Prop where
 at':∀x,x∈l->Kz w x.s x.ps x.po
theorem Eb.keepI {w w':World} {l:List H9} (h:Eb w l) (hk:Hk w w'):Eb w' l:=⟨fun x hx=>(h.at' x hx).keepI hk⟩
theorem Eb.below {w w':World} {l:List H9} (h:Eb w l) (hb:Below w.heap.size w w'):Eb w' l:=h.keepI (Hk.of_below hb)
theorem Bj.sers {W:World} {B n:Nat} {e:TypeId} {p:Option Addr} {cap:Nat} {RL:List H9} (h:Bj W B e 7 (.slice p n cap) n (Cq RL)) (hP:Eb W RL):Gr W p (RL.map (·.s)):=by
 rcases h.own.2 with⟨h1,h0⟩|⟨g,cap',cur,h1,hg,hb,hn,hmx,_,ht⟩
 ·have h2:=h.own.1
  rw[Wq,h0] at h2
  have:RL= []:=List.length_eq_zero_iff.1 (by omega)
  subst this
  exact⟨fun i r hr=>by simp at hr⟩
 ·injection h1 with h2 _ _
  subst h2
  refine⟨fun i r hr=> ?_⟩
  rw[List.getElem?_map] at hr
  obtain⟨x,hx,rfl⟩:=Option.map_eq_some_iff.1 hr
  have hm:=hP.at' x (List.mem_of_getElem? hx)
  refine⟨g,0,x.ps,x.cs,x.po,x.co,rfl,fun j v hv=> ?_,hm.inn⟩
  have h3:=Oe RL i x j v hx hv
  rw[cell_of_row W g _ cur e (0,0) hb,Nat.zero_add]
  exact Eh ht h3
structure Hz (w:World) (p:Option Addr) (rows:List K0):Prop where
 at':∀(i:Nat) (r:K0),rows[i]? =some r->∃b o ps cs po co,p=some ⟨b,o,none⟩/\(∀j v,(Uc r ps cs po co)[j]? =some v->w.cell? ⟨b,o+i*7+j,none⟩=some v)/\Gy w r ps cs po co
theorem Hz.below {w W:World} {p:Option Addr} {rows:List K0} (h:Hz w p rows) (hb:Below w.heap.size w W):Hz W p rows:=⟨fun i r hr=>by
 obtain⟨b,o,ps,cs,po,co,e,hc,hr⟩:=h.at' i r hr
 exact⟨b,o,ps,cs,po,co,e,fun j v hv=>((Dc hb).1 b _ (Ap (hc j v hv))).trans (hc j v hv),hr.below hb⟩⟩
theorem Tryz.infoSer28 :(Tryz.prog.info? 79).map (fun i=>(i.zero,i.size,i.bytes))=some (some (.agg #[.string .empty,.int .i64 0,.int .i64 0,.int .i64 0,.int .i64 0,.slice none 0 0,.slice none 0 0]),7,96):=by kernel_rfl
theorem Hk.setCell {w:World} {o j:Nat} {u:Value} (h:∀k z,w.cell? ⟨o,0,none⟩≠some (.int k z)):Hk w (w.setCell ⟨o,j,none⟩ u):=fun b ⟨k,y,hb⟩ z v hv=>by
 have hne:b≠o:=by rintro rfl;exact h k y hb
 exact(World.cell?_of_block (Below.heap_setCell _ _ _ _ (by exact hne))).trans hv
theorem Px {w:World} {g:Nat} {p:Option Addr} {n c:Nat} {t:TypeId} (h:Blk w g #[.slice p n c] t) (k:IntKind) (z:Int):w.cell? ⟨g,0,none⟩≠some (.int k z):=by
 rw[h.cell 0]
 simp
theorem Hk.grown {w w':World} {B n:Nat} {e:TypeId} {v:Value} {RL:List H9} (ho:w.ownsRow B e 7 v n (Cq RL)) (hg:w.grownBy w' v.ownBlock) (hn:RL= []->v= .slice none 0 0):Hk w w':=fun b ⟨k,y,hb⟩ z c hc=>by
 have hne:some b≠v.ownBlock:=by
  rcases ho.2 with⟨rfl,_⟩|⟨g,cap,cur,rfl,_,hgb,_,_,_,ht⟩
  ·simp[Value.ownBlock]
  ·simp only[Value.ownBlock]
   intro e1
   injection e1 with e1
   subst e1
   cases RL with
   |nil=>cases hn rfl
   |cons x l=>
    have h3:=Oe (x::l) 0 x 0 (.string x.s.name) rfl rfl
    have h4:=Eh ht h3
    rw[cell_of_row w b 0 cur e (0,0) hgb] at hb
    rw[show (0*7+0:Nat)=0 from rfl] at h4
    rw[h4] at hb
    cases hb
 exact(hg.cell_far ⟨b,z,none⟩ (Ap hc) hne).trans hc
theorem Wc {w W w2 w9:World} {RL:List H9} {x:H9} {vp:Option Addr} {vc gg cp:Nat} {A Bq:Array Value} {o:Obj} (hb:Below w.heap.size w W) (b1:Blk W w.heap.size A 24) (b2:Blk W (w.heap.size+1) Bq 24)
  (b3:Blk W (w.heap.size+1+1) #[.slice vp RL.length vc] 24) (b5:Bj W w.heap.size 79 7 (.slice vp RL.length vc) RL.length (Cq RL)) (b6:Eb W RL) (hz:w.heap.size<=W.heap.size)
  (hB2:Below W.heap.size W w2) (hSO:Kz w2 x.s x.ps x.po) (hnl:RL= []->Value.slice vp RL.length vc= .slice none 0 0)
  (hown1:w9.ownsRow w.heap.size 79 7 (.slice (some ⟨gg,0,none⟩) (RL.length+1) cp) (RL.length+1) (Cq RL++(X7 x).toList))
  (hgrow:(w2.alloc o).grownBy w9 (Value.slice vp RL.length vc).ownBlock):
  Below w.heap.size w (w9.setCell ⟨(w.heap.size+1+1),0,none⟩ (.slice (some ⟨gg,0,none⟩) (RL.length+1) cp))/\Blk (w9.setCell ⟨(w.heap.size+1+1),0,none⟩ (.slice (some ⟨gg,0,none⟩) (RL.length+1) cp)) w.heap.size A 24/\Blk (w9.setCell ⟨(w.heap.size+1+1),0,none⟩ (.slice (some ⟨gg,0,none⟩) (RL.length+1) cp)) (w.heap.size+1) Bq 24/\
   Blk (w9.setCell ⟨(w.heap.size+1+1),0,none⟩ (.slice (some ⟨gg,0,none⟩) (RL.length+1) cp)) (w.heap.size+1+1) #[.slice (some ⟨gg,0,none⟩) (RL.length+1) cp] 24/\
   Bj (w9.setCell ⟨(w.heap.size+1+1),0,none⟩ (.slice (some ⟨gg,0,none⟩) (RL.length+1) cp)) w.heap.size 79 7 (.slice (some ⟨gg,0,none⟩) (RL.length+1) cp) (RL++ [x]).length (Cq (RL++ [x]))/\
   Eb (w9.setCell ⟨(w.heap.size+1+1),0,none⟩ (.slice (some ⟨gg,0,none⟩) (RL.length+1) cp)) (RL++ [x]):=by
 have ho0:=(b5.below hB2).own
 have ho:(w2.alloc o).ownsRow w.heap.size 79 7 (.slice vp RL.length vc) RL.length (Cq RL):=ho0.alloc _
 have hs:=hB2.size
 have hbl:Below w.heap.size w w9:=Below.grown ((hb.trans (hB2.mono hz)).alloc (by omega) o) hgrow (by(have:(w2.alloc o).heap.size=w2.heap.size+1:=Array.size_push _);omega) (fun k hk=>by
  rcases ho.2 with⟨e,_⟩|⟨g',c9,cur,e,hge,_⟩
  ·injection e with e _ _;subst e;simp[Value.ownBlock] at hk
  ·injection e with e _ _;subst e;simp[Value.ownBlock] at hk;omega)
 have q1:=Blk.grown (b1.below hB2) ho0 (by decide) hgrow
 have q2:=Blk.grown (b2.below hB2) ho0 (by decide) hgrow
 have q3:=Blk.grown (b3.below hB2) ho0 (by decide) hgrow
 have kI:Hk w2 (w9.setCell ⟨(w.heap.size+1+1),0,none⟩ (.slice (some ⟨gg,0,none⟩) (RL.length+1) cp)):=((Hk.of_below (Below.alloc (Below.refl _ _) (Nat.le_refl _) o)).trans (Hk.grown ho hgrow hnl)).trans (Hk.setCell (Px q3))
 have hR:Bj w9 w.heap.size 79 7 (.slice (some ⟨gg,0,none⟩) (RL.length+1) cp) (RL++ [x]).length (Cq (RL++ [x])):=by
  rw[Th,List.length_append]
  exact⟨hown1⟩
 refine⟨hbl.setCell (by simp;omega) _,q1.setO (by omega) _ _,q2.setO (by omega) _ _,q3.set2 (by rfl),hR.setX (Gh hR.own q3 (by decide)),⟨fun y hy=> ?_⟩⟩
 rcases List.mem_append.1 hy with h1|h1
 ·exact((b6.below hB2).at' y h1).keepI kI
 ·rw[List.mem_singleton.1 h1]
  exact hSO.keepI kI
theorem Yo {rows:List K0} {RL:List H9} {i:Nat} {r0:K0} {p':Option Addr} {cap':Nat} {p2:Option Addr} {cap2:Nat} (h:RL.map (·.s)=(rows.take (min i 9)).map Fw) (hr:rows[i]? =some r0) (hi:i<=8):
  (RL++ [(⟨Fw r0,p',cap',p2,cap2⟩:H9)]).map (·.s)=(rows.take (min (i+1) 9)).map Fw:=by
 rw[List.map_append,h,show min i 9=i by omega,show min (i+1) 9=i+1 by omega,List.take_add_one,hr,List.map_append]
 rfl
theorem Yp {rows:List K0} {RL:List H9} {i:Nat} (h:RL.map (·.s)=(rows.take (min i 9)).map Fw) (hi:¬i<=8):RL.map (·.s)=(rows.take (min (i+1) 9)).map Fw:=by
 rw[h,show min i 9=9 by omega,show min (i+1) 9=9 by omega]
theorem Rj {rows:List K0} {RL:List H9} {i:Nat} (h:RL.map (·.s)=(rows.take (min i 9)).map Fw) (hi:rows.length<=i):RL.map (·.s)=(rows.take 9).map Fw:=by
 rw[h]
 rcases Nat.le_total i 9 with h1|h1
 ·rw[show min i 9=i by omega,List.take_of_length_le (by omega),List.take_of_length_le (by omega)]
 ·rw[show min i 9=9 by omega]
def Vt (w:World) (p:Option Addr) (cap:Nat) (rows:List K0) (a':Act) (W:World):Prop:=
 Below w.heap.size w W/\Blk W w.heap.size #[.slice p rows.length cap] 24/\Blk W (w.heap.size+1) #[.slice none 0 0] 24/\∃(i:Nat) (v:Value) (RL:List H9),(∃u:Nat->Value,a'= {tmps:= #[u 0,.pointer (some ⟨w.heap.size,0,none⟩),.pointer (some ⟨(w.heap.size+1),0,none⟩),.pointer (some ⟨(w.heap.size+1+1),0,none⟩),u 4,u 5,u 6,.slice p rows.length cap,.int .i64 (rows.length:Int),.int .i64 (i:Int),u 10,u 11,u 12,u 13,u 14,u 15,u 16,u 17,u 18,u 19,u 20,u 21,u 22,u 23,u 24],defers:= []})/\Blk W (w.heap.size+1+1) #[v] 24/\
  Bj W w.heap.size 79 7 v RL.length (Cq RL)/\Eb W RL/\(RL= []->v= .slice none 0 0)/\RL.map (·.s)=(rows.take (min i 9)).map Fw/\i<=rows.length
def Mi (B:Nat) (rows:List A8):Bi:=fun v w=>∃(p:Option Addr) (c:Nat) (RL:List H9),v= .agg #[.slice p rows.length c]/\Bj w B 79 7 (.slice p rows.length c) rows.length (Cq RL)/\Eb w RL/\RL.map (·.s)=rows
theorem Mi.below {B:Nat} {rows:List A8} {v:Value} {w w':World} (h:Mi B rows v w) (hb:Below w.heap.size w w'):Mi B rows v w':=by
 obtain⟨p,c,RL,e,h1,h2,h3⟩:=h
 exact⟨p,c,RL,e,h1.below hb,h2.below hb,h3⟩
theorem Mi.closed (B:Nat) (rows:List A8):A9 [] (Mi B rows):=fun _ _ _ hr h=>h.below hr.below
theorem Mi.mono {B B':Nat} {rows:List A8} {v:Value} {w:World} (h:Mi B rows v w) (hB:B'<=B):Mi B' rows v w:=by
 obtain⟨p,c,RL,e,h1,h2,h3⟩:=h
 exact⟨p,c,RL,e,h1.mono hB,h2,h3⟩
theorem Mi.form {B:Nat} {rows:List A8} {v:Value} {w:World} (h:Mi B rows v w):∃(p:Option Addr) (c:Nat),v= .agg #[.slice p rows.length c]/\Gr w p rows:=by
 obtain⟨p,c,RL,e,h1,h2,h3⟩:=h
 have h4:=h1.sers h2
 rw[h3] at h4
 exact⟨p,c,e,h4⟩
theorem Zo (p:Option Addr) (cap:Nat) (rows:List K0) (w:World) (h:Hz w p rows) (hmx:rows.length<=9223372036854775807):
  Calls Tryz.prog 11 #[.agg #[.slice p rows.length cap]] w fun e w'=>∃v,e= .returned v/\Below w.heap.size w w'/\Mi w.heap.size ((rows.take 9).map Fw) v w':=by
 obtain⟨i0,hi0,hz0,hz1,hz2⟩:=info_parts Tryz.infoSer28
 go_enter Tryz.func11,Tryz.ntmps11
 go_upto_region 2 with(fail)
 refine Ab w (Bc w.heap.size #[.slice p rows.length cap] 24<|Bc (w.heap.size+1) #[.slice none 0 0] 24<|Bc (w.heap.size+1+1) #[.slice none 0 0] 24<|Bz) ?_
 rintro W1 hW z2 ⟨⟨b1,yb1,k1,f1⟩,⟨b2,yb2,k2,f2⟩,⟨b3,yb3,k3,f3⟩,-⟩
 go_wp2
 clear k1 f1 k2 f2 k3 f3
 refine wp_loop (Vt w p cap rows) (fun a' _=>rows.length-(Ag (a'.tmps.getD 9 undef)).toNat) ?_ ?_
 ·unfold Vt
  exact⟨hW,b1,b2,0,_,[],Ac rfl,b3,Bj.nil _ _ _ _,⟨fun x hx=>by cases hx⟩,fun _=>rfl,by simp,Nat.zero_le _⟩
 clear b1 b2 b3 hW
 rintro a' W ⟨hW,b1,b2,i,v,RL,⟨u,rfl⟩,b3,hown,hrows,hnl,hRL,hi'⟩
 have hz:=hW.size
 have yb1:=b1.lt
 have yb2:=b2.lt
 have yb3:=b3.lt
 have hlR:RL.length<=9:=by
  have e:=congrArg List.length hRL
  rw[List.length_map,List.length_map,List.length_take] at e
  omega
 rcases Nat.lt_or_ge i rows.length with hlt|hge
 ·obtain⟨r0,tr⟩:∃x,rows[i]? =some x:=⟨rows[i]'(by omega),List.getElem?_eq_getElem (by omega)⟩
  obtain⟨b0,o0,p0,c0,q0,d0,rfl,hcs,hcm⟩:=(h.below hW).at' i _ tr
  have j0:W.cell? ⟨b0,o0+i*7,none⟩=some (.string r0.nm):=hcs 0 _ rfl
  have j1:W.cell? ⟨b0,o0+i*7+1,none⟩=some (r0.ep):=hcs 1 _ rfl
  have j2:W.cell? ⟨b0,o0+i*7+2,none⟩=some (r0.fl):=hcs 2 _ rfl
  have j3:W.cell? ⟨b0,o0+i*7+3,none⟩=some (r0.la):=hcs 3 _ rfl
  have j4:W.cell? ⟨b0,o0+i*7+4,none⟩=some (r0.sc):=hcs 4 _ rfl
  have j5:W.cell? ⟨b0,o0+i*7+5,none⟩=some (.slice p0 r0.rows.length c0):=hcs 5 _ rfl
  have j6:W.cell? ⟨b0,o0+i*7+6,none⟩=some (.slice q0 r0.pts.length d0):=hcs 6 _ rfl
  have zq:=Ap j0
  try simp only at zq
  clear hcs
  by_cases h9:i<=8
  ·
   have k1:=b1.cell
   have f1:=b1.frozen
   have k2:=b2.cell
   have f2:=b2.frozen
   have k3:=b3.cell
   have f3:=b3.frozen
   have hneA:v.ownBlock≠some (w.heap.size+1+1):=Gh hown.own b3 (by decide)
   have hneB:v.ownBlock≠some W.heap.size:=fun e=>by have:=(hown.own.lt _ e).2;omega
   go_upto_region 6 with(fail)
   clear k1 f1 k2 f2 k3 f3
   refine Ab w (Bc w.heap.size #[.slice (some ⟨b0,o0,none⟩) rows.length cap] 24<|Bc (w.heap.size+1) #[.slice none 0 0] 24<|Bc (w.heap.size+1+1) #[v] 24<|Bc W.heap.size #[.string r0.nm,r0.ep,r0.fl,r0.la,r0.sc,.slice p0 r0.rows.length c0,.slice q0 r0.pts.length d0] 79<|Rc (fun W'=>Bj W' w.heap.size 79 7 v RL.length (Cq RL))<|Rc (fun W'=>Eb W' RL)<|Rc (fun W'=>Gy W' r0 p0 c0 q0 d0)<|Bz) ?_ (hI:=by exact Aa) (hR:=(Bc.mk (by exact Ad)<|Bc.mk (by exact Ad)<|Bc.mk (by exact Ad)<|Bc.mk (by exact Ad)<|Rc.mk (by exact hown.below (by exact Aa))<|Rc.mk (by exact hrows.below (by exact Aa))<|Rc.mk (by exact hcm.below (by exact Aa))<|trivial))
   clear b1 b2 b3 hW
   rintro W21 hW z22 ⟨⟨b1,yb1,k1,f1⟩,⟨b2,yb2,k2,f2⟩,⟨b3,yb3,k3,f3⟩,⟨b4,yb4,k4,f4⟩,b5,b6,b7,-⟩
   obtain⟨vp,vc,rfl,-,-,-,-⟩:=b5.form
   have g0:=k3 0
   have gf:=f3 0
   have g1:=k4 0
   have g2:=k4 1
   have g3:=k4 2
   have g4:=k4 3
   have g5:=k4 4
   have g6:=k4 5
   have g7:=k4 6
   simp only[List.getElem?_toArray,List.getElem?_cons_zero,List.getElem?_cons_succ] at g0 g1 g2 g3 g4 g5 g6 g7
   clear k1 k2 k3 k4 f1 f2 f3 f4
   have c2':=Hd (fun X (hX:Below W21.heap.size W21 X)=>c_series28 r0 p0 c0 q0 d0 X (b7.below hX))
   unfold Uc Dy at c2'
   clear j0 j1 j2 j3 j4 j5 j6 hcm h b7
   go_region_law
    (first
     |(refine step_append_lies _ (by rfl) _ _ _ (by rfl) w.heap.size 79 i0 _ 7 96 (by kernel_rfl) hi0 hz0 hz1 hz2 rfl (by omega) _ RL.length (Cq RL) (by rfl) (((b5.below (Below.drew (Below.refl _ W21))).below hB2).own.alloc _) ⟨w2.heap.size,0,none⟩ 1 1 (Dy (Fw r0) p' cap' p2 cap2).toList (by rfl) (by rfl) (World.news_of_block (cs:=Dy (Fw r0) p' cap' p2 cap2) (t:=79) (fr:=(0,0)) (heap_alloc_new w2 _)) (by simp[Value.oneCell',Dy]) (by omega) (by simp[maxLen];omega) (by omega) (by simp;omega) (w2.heap.size+1) (by simp) ?_;intro gg cp w9 hown1 hgrow hat hlt9;have gk9:=hgrow.cell_far ⟨w.heap.size+1+1,0,none⟩ (by simp;omega) (by first|exact Ne.symm hneA|exact Ne.symm hneB);have gf9:=hgrow.frozen_far ⟨w.heap.size+1+1,0,none⟩ (by simp;omega) (by first|exact Ne.symm hneA|exact Ne.symm hneB);rw[World.cell?_alloc_lt _ _ _ (by simp;omega),gk0] at gk9;rw[World.frozen?_alloc_past _ _ _ (by omega)] at gf9;rw[gkf] at gf9)
     |(go_simp;go_wp2_with (go_at_call 38;refine(c2'.out _ (by first|exact Below.refl _ _|exact Below.drew (Below.refl _ _)|exact Aa)).mono ?_;rintro e w2 ⟨p',cap',p2,cap2,rfl,hB2,hSO⟩;have hz2':=hB2.size;try simp at hz2');have gk0:=((Dc hB2).1 _ _ (by simp;omega)).trans g0;have gkf:=((Dc hB2).2 _ _ (by simp;omega)).trans gf;have gka:=fun(o:Obj)=>(World.cell?_alloc_lt w2 o ⟨w.heap.size+1+1,0,none⟩ (by simp;omega)).trans gk0))
   all_goals (
    clear hneA hneB hown
    obtain⟨e1,e2,e3,e4,e5,e6⟩:=Wc (W:=W21.drew) (Below.drew hW) b1 b2 b3 b5.drew (b6.below (Below.drew (Below.refl _ W21))) (Below.drew hW).size hB2 (x:=⟨Fw r0,p',cap',p2,cap2⟩) hSO hnl hown1 hgrow
    have e7:=e1.size
    clear hown1 hgrow gk9 gf9 hB2 hSO hnl b1 b2 b3 b4 b5 b6 hW gka gk0 gkf
    generalize w9.setCell _ _=W9 at e1 e2 e3 e4 e5 e6 e7⊢
    go_wp2
    refine⟨?_,by simp[Ag];omega⟩
    unfold Vt
    exact⟨e1,e2,e3,i+1,_,RL++ [(⟨Fw r0,p',cap',p2,cap2⟩:H9)],Ac rfl,e4,e5,e6,fun e=>absurd e (by simp),Yo hRL tr (by omega),hlt⟩)
  ·
   have k1:=b1.cell
   have f1:=b1.frozen
   have k2:=b2.cell
   have f2:=b2.frozen
   have k3:=b3.cell
   have f3:=b3.frozen
   have hr0:=Hd hRL
   clear hRL h hcm
   go_upto_region 5 with(fail)
   clear k1 f1 k2 f2 k3 f3
   refine Ab w (Bc w.heap.size #[.slice (some ⟨b0,o0,none⟩) rows.length cap] 24<|Bc (w.heap.size+1) #[.slice none 0 0] 24<|Bc (w.heap.size+1+1) #[v] 24<|Rc (fun W'=>Bj W' w.heap.size 79 7 v RL.length (Cq RL))<|Rc (fun W'=>Eb W' RL)<|Bz) ?_ (hI:=by exact Aa) (hR:=(Bc.mk (by exact Ad)<|Bc.mk (by exact Ad)<|Bc.mk (by exact Ad)<|Rc.mk (by exact hown.below (by exact Aa))<|Rc.mk (by exact hrows.below (by exact Aa))<|trivial))
   clear b1 b2 b3 hW
   rintro W21 hW z22 ⟨⟨b1,yb1,k1,f1⟩,⟨b2,yb2,k2,f2⟩,⟨b3,yb3,k3,f3⟩,b4,b5,-⟩
   clear k1 f1 k2 f2 k3 f3
   go_wp2
   have hw1:wrap64 ((i:Int)+1)=(i:Int)+1:=by simp only[Ak];omega
   try simp only[hw1]
   clear hmx hw1
   refine⟨?_,by simp[Ag];omega⟩
   unfold Vt
   exact⟨hW,b1,b2,i+1,v,RL,Ac rfl,b3,b4,b5,hnl,Yp hr0.out (by omega),hlt⟩
 ·have hlen:rows.length<=i:=by omega
  obtain⟨vp,vc,rfl,-,-,-,-⟩:=hown.form
  have k1:=b1.cell
  have f1:=b1.frozen
  have k2:=b2.cell
  have f2:=b2.frozen
  have k3:=b3.cell
  have f3:=b3.frozen
  go_wp2
  have d1:Below w.heap.size w (W.setCell ⟨w.heap.size+1,0,none⟩ (.slice vp RL.length vc)):=Aa
  have d2:Blk (W.setCell ⟨w.heap.size+1,0,none⟩ (.slice vp RL.length vc)) (w.heap.size+1) #[.slice vp RL.length vc] 24:=b2.set2 (by rfl)
  have d3:Bj (W.setCell ⟨w.heap.size+1,0,none⟩ (.slice vp RL.length vc)) w.heap.size 79 7 (.slice vp RL.length vc) RL.length (Cq RL):=hown.setX (Gh hown.own b2 (by decide))
  have d4:Eb (W.setCell ⟨w.heap.size+1,0,none⟩ (.slice vp RL.length vc)) RL:=hrows.keepI (Hk.setCell (Px b2))
  have d6:((rows.take 9).map Fw).length=RL.length:=by rw[<-Rj hRL hlen,List.length_map]
  have d0:=d2.cell 0
  simp only[List.getElem?_toArray,List.getElem?_cons_zero] at d0
  refine bodyPost_ret (v:= .agg #[.slice vp RL.length vc]) (by simp[results,Tryz.results11,go_sem,d0]) rfl ⟨_,rfl,d1,vp,vc,RL,by rw[d6],by rw[d6];exact d3,d4,Rj hRL hlen⟩
end Go.Proofs.YtdeghcgakkhbmaaGreat
namespace Go.Proofs.YtdeghcgakkhbmaaGreat
open Go.RowKit
theorem Zx (r:Nat) (w:World):Cb 103 #[.int .u8 r] w (.bool (Ea r)):=by
 go_enter Tryz.func103,Tryz.ntmps103
 go_upto_region 1 with(fail)
 refine Ab w (Bz) ?_
 rintro W1 hW z2 hL
 refine Bg 15 17 hW hL ?_
 iterate 3 refine dA ?_
 iterate 2 refine gA ?_
 refine pA ?_
 refine dA ?_
 iterate 3 refine gA ?_
 iterate 2 refine gB ?_
 refine pgA ?_
 refine pO ?_
 refine dA ?_
 clear hW hL
 rintro W3 hW z4 hL
 simp only[ndR]
 intros
 repeat (rename Am _ _ _ _=>hgd;clear hgd)
 simp only[ndS]
 refine wpList_nil ?_
 obtain⟨-⟩:=hL
 go_wp2
 refine bodyPost_ret (v:= .bool ((decide (97<=(r:Int))&&decide ((r:Int)<=122))||(decide (48<=(r:Int))&&decide ((r:Int)<=57)))) (by simp[results,Tryz.results103,go_sem]) rfl ⟨?_,by exact Aa⟩
 congr 2
 unfold Ea
 rw[Bool.eq_iff_iff]
 simp only[Bool.or_eq_true,Bool.and_eq_true,decide_eq_true_eq]
 omega
theorem Ve (n:Int) (w:World):Cb 55 #[n] w (.bool (btw n (0) 281474976710656)):=by
 unfold btw
 go_enter Tryz.func55,Tryz.ntmps55
 go_upto_region 1 with(fail)
 refine Ab w (Bz) ?_
 rintro W1 hW z2 hL
 refine Bg 7 9 hW hL ?_
 iterate 3 refine dA ?_
 iterate 2 refine gA ?_
 refine pA ?_
 refine dA ?_
 clear hW hL
 rintro W3 hW z4 hL
 simp only[ndR]
 intros
 repeat (rename Am _ _ _ _=>hgd;clear hgd)
 simp only[ndS]
 refine wpList_nil ?_
 obtain⟨-⟩:=hL
 go_wp2
 refine bodyPost_ret (by simp[results,Tryz.results55,go_sem]) rfl ⟨rfl,by exact Aa⟩
theorem Zz (n:Int) (w:World):Cb 57 #[n] w (.bool (btw n (0) 1099511627776)):=by
 unfold btw
 go_enter Tryz.func57,Tryz.ntmps57
 go_upto_region 1 with(fail)
 refine Ab w (Bz) ?_
 rintro W1 hW z2 hL
 refine Bg 7 9 hW hL ?_
 iterate 3 refine dA ?_
 iterate 2 refine gA ?_
 refine pA ?_
 refine dA ?_
 clear hW hL
 rintro W3 hW z4 hL
 simp only[ndR]
 intros
 repeat (rename Am _ _ _ _=>hgd;clear hgd)
 simp only[ndS]
 refine wpList_nil ?_
 obtain⟨-⟩:=hL
 go_wp2
 refine bodyPost_ret (by simp[results,Tryz.results57,go_sem]) rfl ⟨rfl,by exact Aa⟩
theorem Sq (n:Int) (w:World):Cb 58 #[n] w (.bool (btw n (-40) 40)):=by
 unfold btw
 go_enter Tryz.func58,Tryz.ntmps58
 go_upto_region 1 with(fail)
 refine Ab w (Bz) ?_
 rintro W1 hW z2 hL
 refine Bg 7 9 hW hL ?_
 iterate 3 refine dA ?_
 iterate 2 refine gA ?_
 refine pA ?_
 refine dA ?_
 clear hW hL
 rintro W3 hW z4 hL
 simp only[ndR]
 intros
 repeat (rename Am _ _ _ _=>hgd;clear hgd)
 simp only[ndS]
 refine wpList_nil ?_
 obtain⟨-⟩:=hL
 go_wp2
 refine bodyPost_ret (by simp[results,Tryz.results58,go_sem]) rfl ⟨rfl,by exact Aa⟩
theorem Sr (t v:Int) (w:World):Cb 59 #[.agg #[t,v]] w (.bool (btw t 0 281474976710656&&btw v (-2305843009213693952) 2305843009213693952)):=by
 unfold btw
 rw[<-Bool.and_assoc]
 go_enter Tryz.func59,Tryz.ntmps59
 go_upto_region 1 with(fail)
 refine Ab w (Bc w.heap.size #[t,v] 58<|Bz) ?_
 rintro W1 hW z2 hL
 refine Bg 19 21 hW hL ?_
 iterate 4 refine dA ?_
 iterate 3 refine gA ?_
 refine pA ?_
 refine dA ?_
 iterate 3 refine gA ?_
 refine pA ?_
 refine dA ?_
 iterate 3 refine gA ?_
 refine pA ?_
 refine dA ?_
 clear hW hL
 rintro W3 hW z4 hL
 simp only[ndR]
 intros
 repeat (rename Am _ _ _ _=>hgd;clear hgd)
 simp only[ndS]
 refine wpList_nil ?_
 obtain⟨⟨b1,yb1,k1,f1⟩,-⟩:=hL
 go_wp2
 refine bodyPost_ret (by simp[results,Tryz.results59,go_sem,k1,f1,yb1]) rfl ⟨rfl,by exact Aa⟩
theorem let_step (s:ByteArray) (f pos:Nat) (h:pos<s.size):Cv s (f+1) pos=(Ea (s[pos]'h).toNat&&Cv s f (pos+1)):=by
 have e:Cv s (f+1) pos=(Ea (Utf8.decode s pos).1&&Cv s f (pos+(Utf8.decode s pos).2)):=by simp[Cv,h]
 rw[e]
 by_cases ha:(s[pos]'h).toNat<128
 ·rw[decode_ascii s pos h ha]
 ·have h1:=(decode_high s pos h (by omega)).1
  have n1:Ea (Utf8.decode s pos).1=false:=by unfold Ea;simp;omega
  have n2:Ea (s[pos]'h).toNat=false:=by unfold Ea;simp;omega
  rw[n1,n2,Bool.false_and,Bool.false_and]
def We (w:World) (s:ByteArray) (a':Act) (W:World):Prop:=
 Below w.heap.size w W/\∃i f:Nat,(∃u:Nat->Value,a'= {tmps:= #[.string s,u 1,u 2,u 3,.string s,.int .i64 (s.size:Int),.int .i64 (i:Int),u 7,u 8,u 9,u 10,u 11,u 12,u 13,u 14,u 15,u 16,u 17,u 18,u 19,u 20,u 21,u 22],defers:= []})/\s.size<=i+f/\Cv s f i=Cv s s.size 0/\i<=s.size
theorem Vf (s:ByteArray) (w:World) (hs9:s.size<=1000):Cb 56 #[.string s] w (.bool (Fq s)):=by
 go_enter Tryz.func56,Tryz.ntmps56
 go_wp2
 refine wp_loop (We w s) (fun a' _=>s.size-(Ag (a'.tmps.getD 6 undef)).toNat) ?_ ?_
 ·unfold We
  exact⟨Below.refl _ _,0,s.size,Ac rfl,by omega,rfl,by omega⟩
 ·rintro a' W ⟨hW,i,f,⟨u,rfl⟩,hf,hlet,hi⟩
  have hz:=hW.size
  rcases Nat.lt_or_ge i s.size with hlt|hge
  ·obtain⟨f,rfl⟩:∃g,f=g+1:=⟨f-1,by omega⟩
   rw[let_step s f i hlt] at hlet
   obtain⟨c,hc⟩:∃c,(s[i]'hlt).toNat=c:=⟨_,rfl⟩
   have hix:∀W,(Instr.index 9 (.string s) (.int .i64 (i:Int))).run Tryz.prog W= .ok (.int .u8 (c:Int)) W:=fun W=>by
    rw[run_index_string _ _ _ _ _ (by kernel_rfl),dif_pos (by omega)]
    simp only[Int.toNat_natCast,hc]
   rw[hc] at hlet
   have cl:=fun W=>Zx c W
   obtain⟨b,hb⟩:∃b,Ea c=b:=⟨_,rfl⟩
   rw[hb] at cl hlet
   clear hc hb
   replace cl:=Hd cl
   replace hlet:=Hd hlet
   cases b with
   |true=>
    go_wp2_with fail
    refine(cl.out _).mono ?_
    rintro e w5 ⟨rfl,hb5⟩
    go_wp2
    rw[show (i:Int)+1=((i+1:Nat):Int) by omega]
    refine⟨?_,by simp[Ag];omega⟩
    unfold We
    exact⟨hW.trans (hb5.mono hz),i+1,f,Ac rfl,by omega,by rw[<-hlet.out];rfl,by omega⟩
   |false=>
    have hno:=Hd (show Fq s=false by unfold Fq;rw[<-hlet.out];simp)
    go_wp2_with fail
    refine(cl.out _).mono ?_
    rintro e w5 ⟨rfl,hb5⟩
    go_wp2
    go_ret
    exact⟨by rw[hno.out];rfl,hW.trans (hb5.mono hz)⟩
  ·have hall:Cv s s.size 0=true:=by
    rw[<-hlet]
    cases f with
    |zero=>rfl
    |succ f=>simp[Cv,Nat.not_lt.2 hge]
   clear hlet
   have hnm:Fq s=(decide (1<=(s.size:Int))&&decide ((s.size:Int)<=12)):=by
    unfold Fq
    rw[hall,Bool.and_true,Bool.eq_iff_iff]
    simp only[Bool.and_eq_true,decide_eq_true_eq]
    omega
   replace hnm:=Hd hnm
   clear hall
   go_upto_region 7 with(fail)
   refine Ab w (Bz) ?_
   clear hW
   rintro W21 hW z22 hL
   refine Bg 9 23 hW hL ?_
   iterate 4 refine dA ?_
   iterate 3 refine gA ?_
   refine pA ?_
   refine dA ?_
   clear hW hL
   rintro W23 hW z24 hL
   simp only[ndR]
   intros
   repeat (rename Am _ _ _ _=>hgd;clear hgd)
   simp only[ndS]
   refine wpList_nil ?_
   obtain⟨-⟩:=hL
   go_wp2
   refine bodyPost_ret (v:= .bool (decide (1<=(s.size:Int))&&decide ((s.size:Int)<=12))) (by simp[results,Tryz.results56,go_sem]) rfl ⟨by rw[hnm.out],by exact Aa⟩
theorem r24last_w (n:Nat) (z:Int) (L:List Int) (K1 A1 R1 m1 d1 E1:Int) (p1 q1:Option Addr) (n1 c1 l1 v1:Nat) (w:World) (hL:L.length=n+1) (hn:n<=300) (hz:L[n]? =some z) (h1:∀W,Below w.heap.size w W->Calls Tryz.prog 135 #[.slice p1 n1 c1] W fun e w'=>∃p k,e= .returned (.slice p (n+1) k)/\A3 w' p L/\Below W.heap.size W w'):
  Cb 132 #[.agg #[K1,.slice p1 n1 c1,A1,R1,m1,d1,.slice q1 l1 v1,E1]] w (z):=by
 have E:=Hd (show wrap64 (n:Int)=(n:Int) by rw[Ak];omega)
 have g0:¬((n:Int)<0):=by omega
 have g1:n<n+1:=by omega
 have g3:(n:Int)<(n:Int)+1:=by omega
 have H_h1:=Hd h1
 clear h1
 go_enter Tryz.func132,Tryz.ntmps132
 go_wp2_with fail
 refine(H_h1.out _ Aa).mono ?_
 rintro e w1 ⟨p,k,rfl,hI,hb1⟩
 have z2:=hb1.size
 try simp at z2
 refine Aj w w1 (Bc w.heap.size #[K1,.slice p1 n1 c1,A1,R1,m1,d1,.slice q1 l1 v1,E1] 135<|Bz) ?_
 rintro hW z3 ⟨⟨b1,yb1,k1,f1⟩,-⟩
 obtain⟨pb,po,rfl,-⟩:=hI.at' n z hz
 have b2:Dd w1 pb po L:=⟨hI⟩
 clear hI
 go_upto_region 2 with(fail)
 clear k1 f1
 refine Ab w (Bc w.heap.size #[K1,.slice p1 n1 c1,A1,R1,m1,d1,.slice q1 l1 v1,E1] 135<|Rc (fun W'=>Dd W' pb po L)<|Bz) ?_ (hI:=by exact Aa) (hR:=(Bc.mk (by exact Ad)<|Rc.mk (by first|exact b2|exact b2.below (by assumption)|exact b2.below Aa)<|trivial))
 clear b1 b2 hW
 rintro W4 hW z5 hL
 obtain⟨⟨b1,yb1,k1,f1⟩,b2,-⟩:=id hL
 clear k1 f1
 refine Bg 7 13 hW hL ?_
 iterate 7 refine dE (fun W' hC=>aI (hC.2.2.1.cellAt hz) (aI E.out (aI g0 (aI g1 (aI g3 (Nat.not_le.2 g1)))))) ?_
 clear hW hL b1 b2
 rintro W6 hW z7 hL
 simp only[ndR]
 intros
 simp only[ndS]
 refine wpList_nil ?_
 obtain⟨⟨b1,yb1,k1,f1⟩,b2,-⟩:=hL
 go_wp2
 refine bodyPost_ret (by simp[results,Tryz.results132,go_sem,k1,f1,yb1]) rfl ⟨rfl,by exact Aa⟩
theorem Yj (n:Nat) (z:Int) (L:List Int) (r:Ah) (M:List Ah) (rb ro:Nat) (K1 A1 R1 m1 d1 E1:Int) (p1 q1:Option Addr) (n1 c1 l1 v1:Nat) (K2 A2 R2 m2 d2 E2:Int) (q2:Option Addr) (n2 c2 l2 v2:Nat) (w:World) (hL:L.length=n+1) (hn:n<=300) (hz:L[n]? =some z) (hM:Gc w rb ro M) (hr:M[0]? =some r) (g2:0<n2) (h1:∀W,Below w.heap.size w W->Calls Tryz.prog 135 #[.slice p1 n1 c1] W fun e w'=>∃p k,e= .returned (.slice p (n+1) k)/\A3 w' p L/\Below W.heap.size W w'):
  Cb 163 #[.agg #[K1,.slice p1 n1 c1,A1,R1,m1,d1,.slice q1 l1 v1,E1],.agg #[K2,.slice (some ⟨rb,ro,none⟩) n2 c2,A2,R2,m2,d2,.slice q2 l2 v2,E2]] w (.bool (decide (z<r.f))):=by
 have E:=Hd (show wrap64 (n:Int)=(n:Int) by rw[Ak];omega)
 have g0:¬((n:Int)<0):=by omega
 have g1:n<n+1:=by omega
 have g3:(n:Int)<(n:Int)+1:=by omega
 have H_h1:=Hd h1
 clear h1
 go_enter Tryz.func163,Tryz.ntmps163
 go_wp2_with fail
 refine(H_h1.out _ Aa).mono ?_
 rintro e w1 ⟨p,k,rfl,hI,hb1⟩
 have z2:=hb1.size
 try simp at z2
 refine Aj w w1 (Bc w.heap.size #[K1,.slice p1 n1 c1,A1,R1,m1,d1,.slice q1 l1 v1,E1] 135<|Bc (w.heap.size+1) #[K2,.slice (some ⟨rb,ro,none⟩) n2 c2,A2,R2,m2,d2,.slice q2 l2 v2,E2] 135<|Bz) ?_
 rintro hW z3 ⟨⟨b1,yb1,k1,f1⟩,⟨b2,yb2,k2,f2⟩,-⟩
 obtain⟨pb,po,rfl,-⟩:=hI.at' n z hz
 have b3:Dd w1 pb po L:=⟨hI⟩
 clear hI
 have b4:Gc w1 rb ro M:=hM.below hW
 go_upto_region 2 with(fail)
 clear k1 f1 k2 f2
 refine Ab w (Bc w.heap.size #[K1,.slice p1 n1 c1,A1,R1,m1,d1,.slice q1 l1 v1,E1] 135<|Bc (w.heap.size+1) #[K2,.slice (some ⟨rb,ro,none⟩) n2 c2,A2,R2,m2,d2,.slice q2 l2 v2,E2] 135<|Rc (fun W'=>Dd W' pb po L)<|Rc (fun W'=>Gc W' rb ro M)<|Bz) ?_ (hI:=by exact Aa) (hR:=(Bc.mk (by exact Ad)<|Bc.mk (by exact Ad)<|Rc.mk (by first|exact b3|exact b3.below (by assumption)|exact b3.below Aa)<|Rc.mk (by first|exact b4|exact b4.below (by assumption)|exact b4.below Aa)<|trivial))
 clear b1 b2 b3 b4 hW
 rintro W4 hW z5 hL
 obtain⟨⟨b1,yb1,k1,f1⟩,⟨b2,yb2,k2,f2⟩,b3,b4,-⟩:=id hL
 clear k1 f1 k2 f2
 refine Dn 13 21 hW hL ?_
 iterate 13 refine dE (fun W' hC=>aI (hC.2.2.2.1.cellAt hz) (aI ((hC.2.2.2.2.1.cellAt hr).1) (aI E.out (aI g0 (aI g1 (aI g3 (aI (Nat.not_le.2 g1) (aI g2 (Nat.not_le.2 g2))))))))) ?_
 clear hW hL b1 b2 b3 b4
 rintro W6 hW z7 hL
 simp only[ndR]
 intros
 simp only[ndS]
 refine wpList_nil ?_
 obtain⟨⟨b1,yb1,k1,f1⟩,⟨b2,yb2,k2,f2⟩,b3,b4,-⟩:=hL
 go_wp2
 refine bodyPost_ret (by simp[results,Tryz.results163,go_sem,k1,f1,k2,f2,yb1,yb2]) rfl ⟨rfl,by exact Aa⟩
theorem Po (s:Aw) (p q:Option Addr) (cap:Nat) (w:World) (h:C0 w s p q) (hs:Cr s=true):
  ∃n,(Ae s.runs).length=n+1/\n<=300/\(Ae s.runs)[n]? =some (C8 s.runs)/\∀W,Below w.heap.size w W->Calls Tryz.prog 135 #[.slice p s.runs.length cap] W fun e w'=>∃p k,e= .returned (.slice p (n+1) k)/\A3 w' p (Ae s.runs)/\Below W.heap.size W w':=by
 have hr:=Bp hs
 have h1:=Bk hr
 have h2:=D0 hr
 refine⟨(Ae s.runs).length-1,by omega,by omega,?_,fun W hW=> ?_⟩
 ·have:=Ot hr (k:=(Ae s.runs).length-1) (by omega)
  rw[this]
  unfold C8
  rw[show (((Ae s.runs).length-1:Nat):Int)=cnt s.runs-1 by omega]
 ·refine(Nf (cap:=cap) hr h.runs h.fewR W hW).mono ?_
  rintro e w' ⟨v,rfl,hv,hB⟩
  obtain⟨p1,k1,rfl,-⟩:=hv.form
  rw[show (Ae s.runs).length-1+1=(Ae s.runs).length by omega]
  exact⟨p1,k1,rfl,hv.ints,hB⟩
theorem c_r24last (s:Aw) (p q:Option Addr) (cap vc:Nat) (w:World) (h:C0 w s p q) (hs:Cr s=true):
  Cb 132 #[.agg (C9 s p q cap vc)] w (.int .i64 (C8 s.runs)):=by
 obtain⟨n,a1,a2,a3,a4⟩:=Po s p q cap w h hs
 exact r24last_w n _ _ _ _ _ _ _ _ _ _ _ _ _ _ w a1 a2 a3 a4
theorem Zy (s x:Aw) (p q p' q':Option Addr) (cap vc cap' vc':Nat) (w:World) (h:C0 w s p q) (hs:Cr s=true) (h':C0 w x p' q') (hx:Cr x=true):
  Cb 163 #[.agg (C9 s p q cap vc),.agg (C9 x p' q' cap' vc')] w (.bool (decide (C8 s.runs<Bv x.runs))):=by
 obtain⟨n,a1,a2,a3,a4⟩:=Po s p q cap w h hs
 have hr:=Bp hx
 cases hl:x.runs with
 |nil=>have:=hr.some';rw[hl] at this;simp at this
 |cons r l=>
  have e:Bv (r::l)=r.f:=U5 (by rw[<-hl];exact hr)
  have h0:=h'.runs
  rw[hl] at h0
  obtain⟨rb,ro,rfl,-⟩:=h0.at' 0 r rfl
  rw[e]
  have:=Yj n _ _ r (r::l) rb ro s.K s.A s.R s.n s.d s.E p q s.runs.length cap s.raw.length vc x.K x.A x.R x.n x.d x.E q' (r::l).length cap' x.raw.length vc' w a1 a2 a3 ⟨h0⟩ rfl (by simp) a4
  unfold C9
  rw[hl]
  exact this
attribute [local simp] Oper.looksAt Op.operands Call.operands Af Det Am
def rrRel (w:World) (r:At) (p:Option Addr) (cap:Nat) (a':Act) (W:World):Prop:=
 Below w.heap.size w W/\Blk W w.heap.size #[.string r.name,r.eps,r.floor,r.last,r.scale,.slice p r.pts.length cap] 35/\∃i:Nat,(∃u:Nat->Value,a'= {tmps:= #[u 0,.pointer (some ⟨w.heap.size,0,none⟩),.bool false,u 3,u 4,u 5,u 6,u 7,u 8,u 9,u 10,u 11,u 12,u 13,u 14,u 15,u 16,u 17,u 18,u 19,u 20,u 21,u 22,u 23,u 24,u 25,u 26,u 27,u 28,u 29,u 30,u 31,u 32,u 33,u 34,u 35,u 36,u 37,u 38,u 39,u 40,u 41,u 42,u 43,.slice p r.pts.length cap,.int .i64 (r.pts.length:Int),.int .i64 (i:Int),u 47,u 48,u 49,u 50,u 51,u 52,u 53,u 54,u 55,u 56,u 57,u 58,u 59,u 60,u 61,u 62,u 63,u 64,u 65,u 66,u 67,u 68,u 69,u 70,u 71,u 72,u 73,u 74,u 75,u 76,u 77,u 78,u 79,u 80,u 81,u 82,u 83,u 84,u 85,u 86,u 87,u 88,u 89,u 90,u 91,u 92],defers:= []})/\Ct r.floor (-1) (r.pts.take i)=true/\i<=r.pts.length/\(i=r.pts.length->(r.pts.isEmpty||r.last==Cs (-1) (r.pts.map (·.1)))=true)
theorem rawPts_cut {fl b:Int} {l:List (Int×Int)} (i:Nat) (h:Ct fl b (l.take i)=false):Ct fl b l=false:=by
 have key:∀(m:List (Int×Int)) (b:Int) (r:List (Int×Int)),Ct fl b m=false->Ct fl b (m++r)=false:=by
  intro m
  induction m with
  |nil=>intro b r h;simp[Ct] at h
  |cons y m ih=>
   intro b r h
   simp only[List.cons_append,Ct] at h⊢
   cases h1:(ptB y&&(decide (fl<=y.1)&&decide (b<y.1))) with
   |false=>rfl
   |true=>
    rw[h1,Bool.true_and] at h
    rw[Bool.true_and]
    exact ih _ r h
 have:=key _ b (l.drop i) h
 rwa [List.take_append_drop] at this
theorem c_ref28Raw (r:At) (p:Option Addr) (cap:Nat) (w:World) (hin:Ar w p r.pts) (hl:r.pts.length<=2000) (hnm:r.name.size<=1000):
  Cb 21 #[.agg (Dw r p cap)] w (.bool (G5 r)):=by
 unfold Dw
 have hnum:Fy r=(Fq r.name&&btw r.eps 0 1099511627776&&btw r.scale (-40) 40&&btw r.floor 0 281474976710656&&btw r.last (-1) 281474976710656&&decide (r.pts.length<=1024)):=by unfold Fy;simp[Bool.and_assoc]
 obtain⟨N1,hN1⟩:∃b,Fq r.name=b:=⟨_,rfl⟩
 obtain⟨N2,hN2⟩:∃b,btw r.eps 0 1099511627776=b:=⟨_,rfl⟩
 obtain⟨N3,hN3⟩:∃b,btw r.scale (-40) 40=b:=⟨_,rfl⟩
 obtain⟨N4,hN4⟩:∃b,btw r.floor 0 281474976710656=b:=⟨_,rfl⟩
 rw[hN1,hN2,hN3,hN4] at hnum
 have hv:=Hd (show (!N1|| !N2|| !N3|| !N4||decide (r.last< -1)||decide (281474976710656<r.last)||decide (1024<(r.pts.length:Int)))= !Fy r by
  rw[hnum]
  unfold btw
  have h1:decide (r.last< -1)= !decide (-1<=r.last):=by rw[Bool.eq_iff_iff];simp
  have h2:decide (281474976710656<r.last)= !decide (r.last<=281474976710656):=by rw[Bool.eq_iff_iff];simp
  have h3:decide (1024<(r.pts.length:Int))= !decide (r.pts.length<=1024):=by rw[Bool.eq_iff_iff];simp;omega
  rw[h1,h2,h3]
  cases N1<;>cases N2<;>cases N3<;>cases N4<;>simp[Bool.not_and])
 replace hnum:=Hd hnum
 have hno0:=Hd (fun(e:Fy r=false)=>(show G5 r=false by unfold G5;rw[e,Bool.false_and]))
 obtain⟨N,hN⟩:∃b,Fy r=b:=⟨_,rfl⟩
 rw[hN] at hv
 replace hN1:=Hd hN1
 replace hN2:=Hd hN2
 replace hN3:=Hd hN3
 replace hN4:=Hd hN4
 replace hN:=Hd hN
 go_enter Tryz.func21,Tryz.ntmps21
 go_upto_region 1 with(fail)
 refine Ab w (Bc w.heap.size #[.string r.name,r.eps,r.floor,r.last,r.scale,.slice p r.pts.length cap] 35<|Bz) ?_
 rintro W1 hW z2 hL
 refine Bg 38 93 hW hL ?_
 iterate 2 refine dE (fun W' hC=>aI hN1.out (aI hN2.out (aI hN3.out hN4.out))) ?_
 refine cE (fun W' hC=>aI hN1.out (aI hN2.out (aI hN3.out hN4.out))) (fun W' hC=>Vf r.name W' hnm) ?_
 iterate 2 refine dE (fun W' hC=>aI hN1.out (aI hN2.out (aI hN3.out hN4.out))) ?_
 iterate 2 refine gE (fun W' hC=>aI hN1.out (aI hN2.out (aI hN3.out hN4.out))) ?_
 apply Bu (p:=true) (hg:=rfl) (hd:=rfl) (hal:=rfl)
 ·intro v W' h
  simp at h
  simp
  exact h
 ·intro hp hx W' hC
  exact Zz r.eps W'
 ·intro hp hx a W' hC hE
  obtain⟨_,⟨-,-,k1,-⟩,-⟩:=hC
  first
   |(simp[hx] at hE;simp[go_sem,Act.eval,iw,hE,k1,hN1.out,hN2.out,hN3.out,hN4.out];try rfl)
   |(clear hE;simp[go_sem,Act.eval,iw,k1,hN1.out,hN2.out,hN3.out,hN4.out];try rfl)
 refine gE (fun W' hC=>aI hN1.out (aI hN2.out (aI hN3.out hN4.out))) ?_
 refine pO ?_
 refine dE (fun W' hC=>aI hN1.out (aI hN2.out (aI hN3.out hN4.out))) ?_
 iterate 2 refine gE (fun W' hC=>aI hN1.out (aI hN2.out (aI hN3.out hN4.out))) ?_
 apply Bu (p:=true) (hg:=rfl) (hd:=rfl) (hal:=rfl)
 ·intro v W' h
  simp at h
  simp
  exact h
 ·intro hp hx W' hC
  exact Sq r.scale W'
 ·intro hp hx a W' hC hE
  obtain⟨_,⟨-,-,k1,-⟩,-⟩:=hC
  first
   |(simp[hx] at hE;simp[go_sem,Act.eval,iw,hE,k1,hN1.out,hN2.out,hN3.out,hN4.out];try rfl)
   |(clear hE;simp[go_sem,Act.eval,iw,k1,hN1.out,hN2.out,hN3.out,hN4.out];try rfl)
 refine gE (fun W' hC=>aI hN1.out (aI hN2.out (aI hN3.out hN4.out))) ?_
 refine pO ?_
 refine dE (fun W' hC=>aI hN1.out (aI hN2.out (aI hN3.out hN4.out))) ?_
 iterate 2 refine gE (fun W' hC=>aI hN1.out (aI hN2.out (aI hN3.out hN4.out))) ?_
 apply Bu (p:=true) (hg:=rfl) (hd:=rfl) (hal:=rfl)
 ·intro v W' h
  simp at h
  simp
  exact h
 ·intro hp hx W' hC
  exact Ve r.floor W'
 ·intro hp hx a W' hC hE
  obtain⟨_,⟨-,-,k1,-⟩,-⟩:=hC
  first
   |(simp[hx] at hE;simp[go_sem,Act.eval,iw,hE,k1,hN1.out,hN2.out,hN3.out,hN4.out];try rfl)
   |(clear hE;simp[go_sem,Act.eval,iw,k1,hN1.out,hN2.out,hN3.out,hN4.out];try rfl)
 refine gE (fun W' hC=>aI hN1.out (aI hN2.out (aI hN3.out hN4.out))) ?_
 refine pO ?_
 refine dE (fun W' hC=>aI hN1.out (aI hN2.out (aI hN3.out hN4.out))) ?_
 iterate 3 refine gE (fun W' hC=>aI hN1.out (aI hN2.out (aI hN3.out hN4.out))) ?_
 refine pO ?_
 refine dE (fun W' hC=>aI hN1.out (aI hN2.out (aI hN3.out hN4.out))) ?_
 iterate 3 refine gE (fun W' hC=>aI hN1.out (aI hN2.out (aI hN3.out hN4.out))) ?_
 refine pO ?_
 refine dE (fun W' hC=>aI hN1.out (aI hN2.out (aI hN3.out hN4.out))) ?_
 iterate 4 refine gE (fun W' hC=>aI hN1.out (aI hN2.out (aI hN3.out hN4.out))) ?_
 refine pO ?_
 clear hW hL
 rintro W3 hW z4 hL
 simp only[ndR]
 intros
 repeat (rename Am _ _ _ _=>hgd;clear hgd)
 simp only[ndS]
 refine wpList_nil ?_
 obtain⟨⟨b1,yb1,k1,f1⟩,-⟩:=hL
 rw[hv.out]
 cases N with
 |false=>
  have hno:=Hd (hno0.out hN.out)
  go_wp2
  go_ret
  exact⟨by rw[hno.out];rfl,by exact Aa⟩
 |true=>
  clear hv hno0 hN1 hN2 hN3 hN4
  have hck:=Hd (show G5 r=(Ct r.floor (-1) r.pts&&(r.pts.isEmpty||r.last==Cs (-1) (r.pts.map (·.1)))) by unfold G5;rw[hN.out,Bool.true_and])
  go_wp2
  refine wp_loop (rrRel w r p cap) (fun a' _=>r.pts.length-(Ag (a'.tmps.getD 46 undef)).toNat) ?_ ?_
  ·unfold rrRel
   exact⟨hW,b1,0,Ac rfl,rfl,by omega,fun e=>by have e':=List.length_eq_zero_iff.1 e.symm;rw[e'];rfl⟩
  clear b1 hW k1 f1 hnum hN
  rintro a' W ⟨hW0,b1,i,⟨u,rfl⟩,hr,hi,hl9⟩
  have hz:=hW0.size
  have zb1:=b1.lt
  rcases Nat.lt_or_ge i r.pts.length with hlt|hge
  ·obtain⟨⟨t,y⟩,tr⟩:∃x,r.pts[i]? =some x:=⟨r.pts[i]'(by omega),List.getElem?_eq_getElem (by omega)⟩
   obtain⟨b,o,rfl,q0,q1⟩:=(hin.below hW0).at' i _ tr
   have hI:Ja W b o r.pts:=⟨hin.below hW0⟩
   simp only at q0 q1
   have zq:=Ap q0
   try simp only at zq
   have e1:r.pts.take (i+1)=r.pts.take i++ [(t,y)]:=by rw[List.take_add_one,tr];rfl
   obtain⟨z,hz0⟩:∃z,Cs (-1) ((r.pts.take i).map (·.1))=z:=⟨_,rfl⟩
   have hst0:Ct r.floor (-1) (r.pts.take (i+1))=(ptB (t,y)&&(decide (r.floor<=t)&&decide (z<t))):=by rw[e1,J8,hr,hz0,Bool.true_and]
   have hlT:i+1=r.pts.length->Cs (-1) (r.pts.map (·.1))=t:=fun e=>by
    have:r.pts=r.pts.take i++ [(t,y)]:=by rw[<-e1,e,List.take_length]
    rw[this,List.map_append,List.map_cons,List.map_nil,El]
   have hne:r.pts.isEmpty=false:=by
    cases hh:r.pts with
    |nil=>rw[hh] at hlt;simp at hlt
    |cons _ _=>rfl
   obtain⟨B1,hB1⟩:∃B,((i:Int)==(r.pts.length:Int)-1)=B:=⟨_,rfl⟩
   obtain⟨B2,hB2⟩:∃B,(r.last !=t)=B:=⟨_,rfl⟩
   have i1:B1=true->i+1=r.pts.length:=fun e=>by rw[<-hB1] at e;have:=beq_iff_eq.1 e;omega
   have i2:i+1=r.pts.length->B1=true:=fun e=>by rw[<-hB1];exact beq_iff_eq.2 (by omega)
   have E2:=Hd (show wrap64 ((r.pts.length:Int)-1)=(r.pts.length:Int)-1 by rw[Ak];omega)
   obtain⟨PB,hPB⟩:∃B,ptB (t,y)=B:=⟨_,rfl⟩
   rw[hPB] at hst0
   have hp0:PB=true->0<=t:=fun e=>by
    rw[<-hPB] at e
    unfold ptB btw at e
    simp only[Bool.and_eq_true,decide_eq_true_eq] at e
    exact e.1.1
   have cP:=Hd (fun W=>Sr t y W)
   rw[show (btw t 0 281474976710656&&btw y (-2305843009213693952) 2305843009213693952)=PB from hPB] at cP
   obtain⟨F,hF⟩:∃F,((PB&&(decide (r.floor<=t)&&decide (z<t)))&& !(B1&&B2))=F:=⟨_,rfl⟩
   have hno:=Hd (fun(e:F=false)=>(show G5 r=false by
    rw[hck.out]
    rw[<-hF] at e
    cases hd:(PB&&(decide (r.floor<=t)&&decide (z<t))) with
    |false=>rw[rawPts_cut (i+1) (hst0.trans hd),Bool.false_and]
    |true=>
     rw[hd,Bool.true_and,Bool.not_eq_false',Bool.and_eq_true] at e
     rw[hlT (i1 e.1),hne]
     have h2:=e.2
     rw[<-hB2] at h2
     have h3:(r.last==t)=false:=by simpa using h2
     rw[h3]
     simp))
   have hst:=Hd (fun(e:F=true)=>(show Ct r.floor (-1) (r.pts.take (i+1))=true by
    rw[hst0]
    rw[<-hF,Bool.and_eq_true] at e
    exact e.1))
   replace hl9:=Hd (fun(e:F=true) (e2:i+1=r.pts.length)=>(show (r.pts.isEmpty||r.last==Cs (-1) (r.pts.map (·.1)))=true by
    rw[<-hF,i2 e2] at e
    rw[hlT e2]
    have h2:B2=false:=by cases B2 with|false=>rfl|true=>simp at e
    rw[<-hB2] at h2
    have h3:(r.last==t)=true:=by simpa using h2
    rw[h3,Bool.or_true]))
   have hnot:decide (r.floor<=t)= !decide (t<r.floor):=by rw[Bool.eq_iff_iff];simp
   by_cases h0:i=0
   ·have E0:=Hd (show decide (0<i)=false from decide_eq_false (by omega))
    obtain rfl: -1=z:=by rw[<-hz0,h0];rfl
    have hv:=Hd (show (!PB||decide (t<r.floor)||(B1&&B2))= !F by
     rw[<-hF,hnot]
     cases PB with
     |false=>rfl
     |true=>
      rw[decide_eq_true (show-1<t by have:=hp0 rfl;omega)]
      cases decide (t<r.floor)<;>cases B1<;>cases B2<;>rfl)
    replace tr:=Hd tr
    replace hB1:=Hd hB1
    replace hB2:=Hd hB2
    clear hst0 hlT i1 i2 hF hz0 e1 hr h0 hPB hp0 hnot hne
    have k1:=b1.cell
    have f1:=b1.frozen
    go_upto_region 6 with(fail)
    clear k1 f1
    refine Ab W (Bc w.heap.size #[.string r.name,r.eps,r.floor,r.last,r.scale,.slice (some ⟨b,o,none⟩) r.pts.length cap] 35<|Bc W.heap.size #[t,y] 58<|Rc (fun W'=>Ja W' b o r.pts)<|Bz) ?_ (hI:=by exact Aa) (hR:=(Bc.mk (by exact Ad)<|Bc.mk (by exact Ad)<|Rc.mk (by first|exact hI|exact hI.below Aa)<|trivial))
    clear b1
    rintro W21 hW z22 hL
    obtain⟨⟨b1,yb1,k1,f1⟩,⟨b2,yb2,k2,f2⟩,b3,-⟩:=id hL
    clear k1 f1 k2 f2
    refine Dn 41 93 hW hL ?_
    refine dE (fun W' hC=>aI E0.out (aI E2.out (aI hB1.out (aI hB2.out (aI hlt (aI (Nat.not_le.2 hlt) (hC.2.2.2.1.cellAt tr.out))))))) ?_
    refine cE (fun W' hC=>aI E0.out (aI E2.out (aI hB1.out (aI hB2.out (aI hlt (aI (Nat.not_le.2 hlt) (hC.2.2.2.1.cellAt tr.out))))))) (fun W' hC=>cP.out W') ?_
    iterate 2 refine dE (fun W' hC=>aI E0.out (aI E2.out (aI hB1.out (aI hB2.out (aI hlt (aI (Nat.not_le.2 hlt) (hC.2.2.2.1.cellAt tr.out))))))) ?_
    iterate 5 refine gE (fun W' hC=>aI E0.out (aI E2.out (aI hB1.out (aI hB2.out (aI hlt (aI (Nat.not_le.2 hlt) (hC.2.2.2.1.cellAt tr.out))))))) ?_
    refine pO ?_
    refine dE (fun W' hC=>aI E0.out (aI E2.out (aI hB1.out (aI hB2.out (aI hlt (aI (Nat.not_le.2 hlt) (hC.2.2.2.1.cellAt tr.out))))))) ?_
    iterate 3 refine gE (fun W' hC=>aI E0.out (aI E2.out (aI hB1.out (aI hB2.out (aI hlt (aI (Nat.not_le.2 hlt) (hC.2.2.2.1.cellAt tr.out))))))) ?_
    iterate 11
     first
     |(
      apply Ai (c:=undef) (hg:=rfl) (hd:=rfl) (hal:=rfl)
      ·intro v W' h
       exact h
      ·intro hp hx
       cases hx)
     |(
      apply Dp (p:=true) (x:=false) (y:=false) (ho:=rfl) (hg:=rfl) (hd:=rfl)
      ·intro v W' h
       simp[Af,Det,Am] at h
       simp
       exact h
      ·intro _ hx v W' h
       simp[hx] at h
       exact h
      ·intro _ hx v W' h hy
       cases hy)
    refine pO ?_
    refine dE (fun W' hC=>aI E0.out (aI E2.out (aI hB1.out (aI hB2.out (aI hlt (aI (Nat.not_le.2 hlt) (hC.2.2.2.1.cellAt tr.out))))))) ?_
    iterate 7 refine gE (fun W' hC=>aI E0.out (aI E2.out (aI hB1.out (aI hB2.out (aI hlt (aI (Nat.not_le.2 hlt) (hC.2.2.2.1.cellAt tr.out))))))) ?_
    iterate 5 refine gF (fun W' hC=>aI E0.out (aI E2.out (aI hB1.out (aI hB2.out (aI hlt (aI (Nat.not_le.2 hlt) (hC.2.2.2.1.cellAt tr.out))))))) ?_
    refine pgA ?_
    refine pO ?_
    clear hW hL b1 b2 b3
    rintro W23 hW z24 hL
    simp only[ndR]
    intros
    repeat (rename Am _ _ _ _=>hgd;clear hgd)
    simp only[ndS]
    refine wpList_nil ?_
    obtain⟨⟨b1,yb1,k1,f1⟩,⟨b2,yb2,k2,f2⟩,b3,-⟩:=hL
    rw[hv.out]
    cases F with
    |false=>
     go_wp2
     go_ret
     exact⟨by rw[hno.out (by trivial)];rfl,by exact Aa⟩
    |true=>
     go_wp2
     rw[show (i:Int)+1=((i+1:Nat):Int) by omega]
     refine⟨?_,by simp[Ag];omega⟩
     unfold rrRel
     exact⟨hW0.trans (hW.mono hz),b1,i+1,Ac rfl,hst.out (by trivial),by omega,fun e=>hl9.out (by trivial) e⟩
   ·obtain⟨j,hj⟩:∃j,i=j+1:=⟨i-1,by omega⟩
    obtain⟨⟨x,y2⟩,ty⟩:∃r',r.pts[j]? =some r':=⟨r.pts[j]'(by omega),List.getElem?_eq_getElem (by omega)⟩
    obtain rfl:x=z:=by rw[<-hz0,hj,List.take_add_one,ty,Option.toList_some,List.map_append,List.map_cons,List.map_nil];exact(El _ _ _).symm
    have E0:=Hd (show decide (0<i)=true from decide_eq_true (by omega))
    have E1:=Hd (show wrap64 ((i:Int)-1)=(j:Int) by rw[Ak];omega)
    have g1:j<r.pts.length:=by omega
    have hv:=Hd (show (!PB||decide (t<r.floor)||decide (t<=x)||(B1&&B2))= !F by
     rw[<-hF,hnot,show decide (x<t)= !decide (t<=x) by rw[Bool.eq_iff_iff];simp]
     cases PB<;>cases decide (t<r.floor)<;>cases decide (t<=x)<;>cases B1<;>cases B2<;>rfl)
    have tj:=Hd ty
    replace tr:=Hd tr
    replace hB1:=Hd hB1
    replace hB2:=Hd hB2
    clear hst0 hlT i1 i2 hF hz0 e1 hr h0 ty hj hPB hp0 hnot hne
    have k1:=b1.cell
    have f1:=b1.frozen
    go_upto_region 6 with(fail)
    clear k1 f1
    refine Ab W (Bc w.heap.size #[.string r.name,r.eps,r.floor,r.last,r.scale,.slice (some ⟨b,o,none⟩) r.pts.length cap] 35<|Bc W.heap.size #[t,y] 58<|Rc (fun W'=>Ja W' b o r.pts)<|Bz) ?_ (hI:=by exact Aa) (hR:=(Bc.mk (by exact Ad)<|Bc.mk (by exact Ad)<|Rc.mk (by first|exact hI|exact hI.below Aa)<|trivial))
    clear b1
    rintro W21 hW z22 hL
    obtain⟨⟨b1,yb1,k1,f1⟩,⟨b2,yb2,k2,f2⟩,b3,-⟩:=id hL
    clear k1 f1 k2 f2
    refine Dn 41 93 hW hL ?_
    refine dE (fun W' hC=>aI E0.out (aI E2.out (aI hB1.out (aI hB2.out (aI hlt (aI (Nat.not_le.2 hlt) (aI (hC.2.2.2.1.cellAt tr.out) (aI E1.out (aI g1 (aI (Nat.not_le.2 g1) (hC.2.2.2.1.cellAt tj.out))))))))))) ?_
    refine cE (fun W' hC=>aI E0.out (aI E2.out (aI hB1.out (aI hB2.out (aI hlt (aI (Nat.not_le.2 hlt) (aI (hC.2.2.2.1.cellAt tr.out) (aI E1.out (aI g1 (aI (Nat.not_le.2 g1) (hC.2.2.2.1.cellAt tj.out))))))))))) (fun W' hC=>cP.out W') ?_
    iterate 2 refine dE (fun W' hC=>aI E0.out (aI E2.out (aI hB1.out (aI hB2.out (aI hlt (aI (Nat.not_le.2 hlt) (aI (hC.2.2.2.1.cellAt tr.out) (aI E1.out (aI g1 (aI (Nat.not_le.2 g1) (hC.2.2.2.1.cellAt tj.out))))))))))) ?_
    iterate 5 refine gE (fun W' hC=>aI E0.out (aI E2.out (aI hB1.out (aI hB2.out (aI hlt (aI (Nat.not_le.2 hlt) (aI (hC.2.2.2.1.cellAt tr.out) (aI E1.out (aI g1 (aI (Nat.not_le.2 g1) (hC.2.2.2.1.cellAt tj.out))))))))))) ?_
    refine pO ?_
    refine dE (fun W' hC=>aI E0.out (aI E2.out (aI hB1.out (aI hB2.out (aI hlt (aI (Nat.not_le.2 hlt) (aI (hC.2.2.2.1.cellAt tr.out) (aI E1.out (aI g1 (aI (Nat.not_le.2 g1) (hC.2.2.2.1.cellAt tj.out))))))))))) ?_
    iterate 3 refine gE (fun W' hC=>aI E0.out (aI E2.out (aI hB1.out (aI hB2.out (aI hlt (aI (Nat.not_le.2 hlt) (aI (hC.2.2.2.1.cellAt tr.out) (aI E1.out (aI g1 (aI (Nat.not_le.2 g1) (hC.2.2.2.1.cellAt tj.out))))))))))) ?_
    iterate 10 refine gF (fun W' hC=>aI E0.out (aI E2.out (aI hB1.out (aI hB2.out (aI hlt (aI (Nat.not_le.2 hlt) (aI (hC.2.2.2.1.cellAt tr.out) (aI E1.out (aI g1 (aI (Nat.not_le.2 g1) (hC.2.2.2.1.cellAt tj.out))))))))))) ?_
    refine pgA ?_
    refine pO ?_
    refine dE (fun W' hC=>aI E0.out (aI E2.out (aI hB1.out (aI hB2.out (aI hlt (aI (Nat.not_le.2 hlt) (aI (hC.2.2.2.1.cellAt tr.out) (aI E1.out (aI g1 (aI (Nat.not_le.2 g1) (hC.2.2.2.1.cellAt tj.out))))))))))) ?_
    iterate 7 refine gE (fun W' hC=>aI E0.out (aI E2.out (aI hB1.out (aI hB2.out (aI hlt (aI (Nat.not_le.2 hlt) (aI (hC.2.2.2.1.cellAt tr.out) (aI E1.out (aI g1 (aI (Nat.not_le.2 g1) (hC.2.2.2.1.cellAt tj.out))))))))))) ?_
    iterate 5 refine gF (fun W' hC=>aI E0.out (aI E2.out (aI hB1.out (aI hB2.out (aI hlt (aI (Nat.not_le.2 hlt) (aI (hC.2.2.2.1.cellAt tr.out) (aI E1.out (aI g1 (aI (Nat.not_le.2 g1) (hC.2.2.2.1.cellAt tj.out))))))))))) ?_
    refine pgA ?_
    refine pO ?_
    clear hW hL b1 b2 b3
    rintro W23 hW z24 hL
    simp only[ndR]
    intros
    repeat (rename Am _ _ _ _=>hgd;clear hgd)
    simp only[ndS]
    refine wpList_nil ?_
    obtain⟨⟨b1,yb1,k1,f1⟩,⟨b2,yb2,k2,f2⟩,b3,-⟩:=hL
    rw[hv.out]
    cases F with
    |false=>
     go_wp2
     go_ret
     exact⟨by rw[hno.out (by trivial)];rfl,by exact Aa⟩
    |true=>
     go_wp2
     rw[show (i:Int)+1=((i+1:Nat):Int) by omega]
     refine⟨?_,by simp[Ag];omega⟩
     unfold rrRel
     exact⟨hW0.trans (hW.mono hz),b1,i+1,Ac rfl,hst.out (by trivial),by omega,fun e=>hl9.out (by trivial) e⟩
  ·obtain rfl:i=r.pts.length:=by omega
   rw[List.take_length] at hr
   have hres:=Hd (show G5 r=true by rw[hck.out,hr,hl9 rfl];rfl)
   clear hr hl9 hck
   go_wp2
   go_ret
   exact⟨by rw[hres.out];rfl,by exact Aa⟩
theorem ite_ne3 {a b c d:Int} {w:World}:((if a=b then (if c=d then Result.ok (Go.Next.value (Value.bool false)) w else Result.ok (Go.Next.value (Value.bool true)) w) else Result.ok (Go.Next.value (Value.bool true)) w):Result Go.Next)=Result.ok (Go.Next.value (Value.bool (!(decide (a=b)&&decide (c=d))))) w:=by
 by_cases h1:a=b<;>by_cases h2:c=d<;>simp[h1,h2]
def K7 (s t:At):Bool:=(s.name.toList==t.name.toList)&&(s.eps==t.eps)&&(s.floor==t.floor)&&(s.last==t.last)&&(s.scale==t.scale)&&decide (s.pts=t.pts)
theorem sameR_refl (s:At):K7 s s=true:=by simp[K7]
def smrRel (w:World) (s t:At) (po1 po2:Option Addr) (co1 co2:Nat) (a':Act) (W:World):Prop:=
 Below w.heap.size w W/\Blk W w.heap.size #[.string s.name,s.eps,s.floor,s.last,s.scale,.slice po1 s.pts.length co1] 35/\Blk W (w.heap.size+1) #[.string t.name,t.eps,t.floor,t.last,t.scale,.slice po2 t.pts.length co2] 35/\∃i:Nat,(∃u:Nat->Value,a'= {tmps:= #[u 0,u 1,.pointer (some ⟨w.heap.size,0,none⟩),.pointer (some ⟨w.heap.size+1,0,none⟩),.bool false,u 5,u 6,u 7,u 8,u 9,u 10,u 11,u 12,u 13,u 14,u 15,u 16,u 17,u 18,u 19,u 20,u 21,u 22,u 23,u 24,u 25,u 26,u 27,u 28,u 29,u 30,u 31,u 32,u 33,u 34,u 35,u 36,u 37,u 38,u 39,u 40,u 41,u 42,u 43,u 44,u 45,u 46,u 47,u 48,u 49,.int .i64 (s.pts.length:Int),.int .i64 (i:Int),u 52,u 53,u 54,u 55,u 56,u 57,u 58,u 59,u 60,u 61,u 62,u 63,u 64,u 65],defers:= []})/\i<=s.pts.length/\∀k,k<i->s.pts[k]? =t.pts[k]?
theorem Sn (s t:At) (po1 po2:Option Addr) (co1 co2:Nat) (w:World) (h:Ar w po1 s.pts) (h':Ar w po2 t.pts) (hls:s.pts.length<=2000) (hlt:t.pts.length<=2000):
  Cb 28 #[.agg (Dw s po1 co1),.agg (Dw t po2 co2)] w (.bool (K7 s t)):=by
 unfold Dw K7
 obtain⟨RES,hRES⟩:∃b,((s.name.toList==t.name.toList)&&(s.eps==t.eps)&&(s.floor==t.floor)&&(s.last==t.last)&&(s.scale==t.scale)&&decide (s.pts=t.pts))=b:=⟨_,rfl⟩
 rw[hRES]
 replace hRES:=Hd hRES
 go_enter Tryz.func28,Tryz.ntmps28
 go_upto_region 1 with(fail)
 refine Ab w (Bc w.heap.size #[.string s.name,s.eps,s.floor,s.last,s.scale,.slice po1 s.pts.length co1] 35<|Bc (w.heap.size+1) #[.string t.name,t.eps,t.floor,t.last,t.scale,.slice po2 t.pts.length co2] 35<|Bz) ?_
 rintro W1 hW z2 hL
 refine Bg 42 66 hW hL ?_
 iterate 6 refine dA ?_
 iterate 5 refine gA ?_
 refine pO ?_
 refine dA ?_
 iterate 5 refine gA ?_
 refine pO ?_
 refine dA ?_
 iterate 5 refine gA ?_
 refine pO ?_
 refine dA ?_
 iterate 5 refine gA ?_
 refine pO ?_
 refine dA ?_
 iterate 7 refine gA ?_
 refine pO ?_
 clear hW hL
 rintro W3 hW z4 hL
 simp only[ndR]
 intros
 repeat (rename Am _ _ _ _=>hgd;clear hgd)
 simp only[ndS]
 refine wpList_nil ?_
 obtain⟨⟨b1,yb1,k1,f1⟩,⟨b2,yb2,k2,f2⟩,-⟩:=hL
 obtain⟨F,hF⟩:∃F,(!s.name.toList==t.name.toList||s.eps !=t.eps||s.floor !=t.floor||s.last !=t.last||s.scale !=t.scale||(s.pts.length:Int) !=(t.pts.length:Int))=F:=⟨_,rfl⟩
 rw[hF]
 simp only[Exit.then]
 have y1:=b1.lt
 have y2:=b2.lt
 cases F with
 |true=>
  have hs:RES=false:=by
   rw[<-hRES.out,Bool.eq_false_iff]
   intro hx
   simp only[Bool.and_eq_true,beq_iff_eq,decide_eq_true_eq] at hx
   obtain⟨⟨⟨⟨⟨h1,h2⟩,h3⟩,h4⟩,h5⟩,h7⟩:=hx
   simp[h1,h2,h3,h4,h5,h7] at hF
  clear hF hRES
  replace hs:=Hd hs
  go_wp2
  go_ret
  exact⟨by rw[hs.out];rfl,hW⟩
 |false=>
  have hs:RES=decide (s.pts=t.pts)/\s.pts.length=t.pts.length:=by
   simp only[Bool.or_eq_false_iff,Bool.not_eq_false',bne_eq_false_iff_eq] at hF
   obtain⟨⟨⟨⟨⟨h1,h2⟩,h3⟩,h4⟩,h5⟩,h7⟩:=hF
   refine⟨?_,by omega⟩
   rw[<-hRES.out,h1]
   simp[h2,h3,h4,h5]
  obtain⟨hs,hl⟩:=hs
  clear hF hRES
  replace hl:=Hd hl
  replace hs:=Hd hs
  go_wp2
  refine wp_loop (smrRel w s t po1 po2 co1 co2) (fun a' _=>s.pts.length-(Ag (a'.tmps.getD 51 undef)).toNat) ?_ ?_
  ·unfold smrRel
   exact⟨hW,b1,b2,0,Ac rfl,by omega,fun k hk=>by omega⟩
  clear b1 b2 hW k1 k2 f1 f2
  rintro a' W ⟨hW0,b1,b2,i,⟨u,rfl⟩,hi,hall⟩
  have hz:=hW0.size
  have zb1:=b1.lt
  have zb2:=b2.lt
  replace hall:=Hd hall
  rcases Nat.lt_or_ge i s.pts.length with hlt9|hge
  ·obtain⟨r,tr⟩:∃r,s.pts[i]? =some r:=⟨s.pts[i]'(by omega),List.getElem?_eq_getElem (by omega)⟩
   obtain⟨q,tq⟩:∃q,t.pts[i]? =some q:=⟨t.pts[i]'(by have:=hl.out;omega),List.getElem?_eq_getElem (by have:=hl.out;omega)⟩
   have hA0:=h.below hW0
   have hB0:=h'.below hW0
   obtain⟨b1',o1,rfl,-⟩:=hA0.at' i r tr
   obtain⟨b2',o2,rfl,-⟩:=hB0.at' i q tq
   have hA:Ja W b1' o1 s.pts:=⟨hA0⟩
   have hB:Ja W b2' o2 t.pts:=⟨hB0⟩
   clear hA0 hB0
   replace tr:=Hd tr
   replace tq:=Hd tq
   have l1:=hlt9
   have l2:i<t.pts.length:=by have:=hl.out;omega
   go_upto_region 6 with(fail)
   refine Ab W (Bc w.heap.size #[.string s.name,s.eps,s.floor,s.last,s.scale,.slice (some ⟨b1',o1,none⟩) s.pts.length co1] 35<|Bc (w.heap.size+1) #[.string t.name,t.eps,t.floor,t.last,t.scale,.slice (some ⟨b2',o2,none⟩) t.pts.length co2] 35<|Rc (fun W'=>Ja W' b1' o1 s.pts)<|Rc (fun W'=>Ja W' b2' o2 t.pts)<|Bz) ?_ (hI:=by exact Aa) (hR:=(Bc.mk (by exact Ad)<|Bc.mk (by exact Ad)<|Rc.mk (by first|exact hA|exact hA.below Aa)<|Rc.mk (by first|exact hB|exact hB.below Aa)<|trivial))
   clear b1 b2
   rintro W21 hW z22 hL
   obtain⟨⟨b1,yb1,k1,f1⟩,⟨b2,yb2,k2,f2⟩,b3,b4,-⟩:=id hL
   clear k1 f1 k2 f2
   refine Dn 11 66 hW hL ?_
   iterate 11
    apply An (hg:=rfl) (hal:=rfl)
    ·intro a W' hC hE
     obtain⟨_,⟨-,-,k1,-⟩,⟨-,-,k2,-⟩,k3,k4,-⟩:=hC
     obtain⟨q0,q1⟩:=k3.cellAt tr.out;obtain⟨q2,q3⟩:=k4.cellAt tq.out
     first
      |(simp at hE;simp[go_sem,Act.eval,iw,hE,k1,k2,k3,k4,q0,q1,q2,q3,l1,l2,ite_ne3];try rfl)
      |(clear hE;simp[go_sem,Act.eval,iw,k1,k2,k3,k4,q0,q1,q2,q3,l1,l2,ite_ne3];try rfl)
   clear hW hL b1 b2 b3 b4
   rintro W23 hW z24 hL
   simp only[ndR]
   intros
   simp only[ndS]
   refine wpList_nil ?_
   obtain⟨⟨b1,yb1,k1,f1⟩,⟨b2,yb2,k2,f2⟩,b3,b4,-⟩:=hL
   by_cases hrq:r=q
   ·have hall':=Hd (show∀k,k<i+1->s.pts[k]? =t.pts[k]? from fun k hk=>by
     rcases Nat.lt_or_ge k i with h|h
     ·exact hall.out k h
     ·obtain rfl:k=i:=by omega
      rw[tr.out,tq.out,hrq])
    rw[show (!decide (r.1=q.1)|| !decide (r.2=q.2))=false by subst hrq;simp]
    clear hrq
    go_wp2
    rw[show (i:Int)+1=((i+1:Nat):Int) by omega]
    refine⟨?_,by simp[Ag];omega⟩
    unfold smrRel
    exact⟨hW0.trans (hW.mono hz),b1,b2,i+1,Ac rfl,by omega,hall'.out⟩
   ·have hne:=Hd (show decide (s.pts=t.pts)=false by
     rw[decide_eq_false_iff_not]
     intro e
     have h1:=tr.out
     rw[e,tq.out] at h1
     exact hrq (Option.some.inj h1).symm)
    rw[show (!decide (r.1=q.1)|| !decide (r.2=q.2))=true by
     obtain⟨r1,r2⟩:=r
     obtain⟨q1,q2⟩:=q
     simp at hrq
     by_cases h1:r1=q1
     ·simp[h1,hrq h1]
     ·simp[h1]]
    clear hrq
    go_wp2
    go_ret
    exact⟨by rw[hs.out,hne.out];rfl,hW0.trans (hW.mono hz)⟩
  ·obtain rfl:i=s.pts.length:=by omega
   have heq:=Hd (show decide (s.pts=t.pts)=true by
    rw[decide_eq_true_eq]
    apply List.ext_getElem?
    intro k
    rcases Nat.lt_or_ge k s.pts.length with h|h
    ·exact hall.out k h
    ·rw[List.getElem?_eq_none h,List.getElem?_eq_none (by have:=hl.out;omega)])
   go_wp2
   go_ret
   exact⟨by rw[hs.out,heq.out];rfl,hW0⟩
end Go.Proofs.YtdeghcgakkhbmaaGreat
namespace Go.Proofs.YtdeghcgakkhbmaaGreat
open Go.RowKit
def atR (rows:List At) (nm:ByteArray):Int:=match rows.findIdx? (fun r=>r.name.toList==nm.toList) with
 |some i=>(i:Int)
 |none=> -1
def NoneB (rows:List At) (nm:ByteArray) (i:Nat):Prop:=∀k r,k<i->rows[k]? =some r->(r.name.toList==nm.toList)=false
def matRel (w:World) (p:Option Addr) (cap:Nat) (rows:List At) (nm:ByteArray) (a':Act) (W:World):Prop:=
 Below w.heap.size w W/\Blk W w.heap.size #[.slice p rows.length cap] 27/\∃i:Nat,(∃u:Nat->Value,a'= {tmps:= #[u 0,.string nm,.pointer (some ⟨w.heap.size,0,none⟩),u 3,.int .i64 0,u 5,u 6,u 7,.slice p rows.length cap,.int .i64 (rows.length:Int),.int .i64 (i:Int),u 11,u 12,u 13,u 14,u 15,u 16,u 17,u 18,u 19,u 20],defers:= []})/\NoneB rows nm i/\i<=rows.length
end Go.Proofs.YtdeghcgakkhbmaaGreat
