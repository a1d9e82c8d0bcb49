/- Parts of the proof that follows. No condition. -/
import Derived.Laws.EntriesVeiled
import Derived.Tactics
import Derived.Tactics2
import Derived.Defers
import Derived.Recover
import Derived.Laws.Pointers
import Derived.Laws.CopyOwn
import Derived.Laws.MakeOwn
import Derived.Test.YtdeghcgakkhbmaaGreatSd2
set_option maxRecDepth 100000
set_option maxHeartbeats 8000000
set_option linter.unusedSimpArgs false
set_option linter.unusedVariables false
namespace Go.Proofs.YtdeghcgakkhbmaaGreat
open Go.RowKit
def Hw (A R n d a b:Int):Bool:=Ay (Be A R n d a)&&Ay (Be A R n d b)
theorem c_Ends_no (A R n d a b:Int) (w:World) (h:Cy A R n d=false):
  Cb 202 #[.agg #[A,R,n,d],a,b] w (.tuple #[.agg #[.int .i64 0,.int .i64 0],.int .i64 150]):=by
 have c1:=fun w=>c_is A R n d w
 rw[h] at c1
 exact ends_no A R n d a b 0 0 0 w c1
theorem c_Ends (A R n d a b:Int) (w:World) (h:Ni A R n d) (ha:0<=a) (hab:a<=b) (hb:b<=281474976710656):
  Cb 202 #[.agg #[A,R,n,d],a,b] w (.tuple #[.agg #[.int .i64 (wv (Hw A R n d a b) (min (Be A R n d a) (Be A R n d b))),.int .i64 (wv (Hw A R n d a b) (max (Be A R n d a) (Be A R n d b)))],.int .i64 (we (Hw A R n d a b))]):=by
 have c1:=fun w=>c_is A R n d w
 rw[Jv.2 h] at c1
 have c2:=fun w=>Sj a w
 rw[M9.2 ⟨ha,by omega⟩] at c2
 have c3:=fun w=>Sj b w
 rw[M9.2 ⟨by omega,hb⟩] at c3
 have va:=fun w=>Wz A R n d a w h ha (by omega)
 have vb:=fun w=>Wz A R n d b w h (by omega) hb
 have hle:decide (b<a)=false:=by simp;omega
 unfold Hw
 generalize Be A R n d a=x at*
 generalize Be A R n d b=y at*
 cases hx:Ay x with
 |false=>
  rw[hx] at va
  exact Wv A R n d a b 0 0 5 w hle c1 c2 c3 (fun w g hg=>both_first A R n d a b 0 0 g w hg (fun w hg=>Oq A R n d a 0 5 g w hg va))
 |true=>
  rw[hx] at va
  cases hy:Ay y with
  |false=>
   rw[hy] at vb
   exact Wv A R n d a b 0 0 5 w hle c1 c2 c3 (fun w g hg=>Z2 A R n d a b x 0 g w hg (fun w hg=>Oq A R n d a x 0 g w hg va) (fun w hg=>Oq A R n d b 0 5 g w hg vb))
  |true=>
   rw[hy] at vb
   have c4:=fun w g hg=>both_ok A R n d a b x y g w hg (fun w hg=>Oq A R n d a x 0 g w hg va) (fun w hg=>Oq A R n d b y 0 g w hg vb)
   show Calls _ _ _ _ fun e' w'=>e'= .returned (.tuple #[.agg #[.int .i64 (min x y),.int .i64 (max x y)],.int .i64 0])/\Below w.heap.size w w'
   rcases Int.lt_trichotomy x y with k|k|k
   ·rw[show min x y=x by omega,show max x y=y by omega]
    exact ends_lt A R n d a b x y 0 w hle k c1 c2 c3 c4
   ·subst k
    rw[show min x x=x by omega,show max x x=x by omega]
    exact Wv A R n d a b x 0 0 w hle c1 c2 c3 c4
   ·rw[show min x y=y by omega,show max x y=x by omega]
    exact ends_gt A R n d a b x y 0 w hle k c1 c2 c3 c4
end Go.Proofs.YtdeghcgakkhbmaaGreat
namespace Go.Proofs.YtdeghcgakkhbmaaGreat
def Cj (f:Nat->Nat):Nat->Nat
 |0=>0
 |n+1=>Cj f n+f n
theorem Fl {f g:Nat->Nat}:∀n,(∀i,i<n->f i=g i)->Cj f n=Cj g n
 |0,_=>rfl
 |n+1,h=>by simp only[Cj];rw[Fl n fun i hi=>h i (by omega),h n (by omega)]
theorem Mw :∀n,Cj (fun _=>0) n=0
 |0=>rfl
 |n+1=>by simp only[Cj];rw[Mw n]
theorem Ly (f g:Nat->Nat):∀n,Cj (fun i=>f i+g i) n=Cj f n+Cj g n
 |0=>rfl
 |n+1=>by simp only[Cj];rw[Ly f g n];omega
theorem Q6 (f:Nat->Nat->Nat) (m:Nat):∀n,Cj (fun i=>Cj (f i) m) n=Cj (fun j=>Cj (fun i=>f i j) n) m
 |0=>by simp only[Cj];rw[Mw]
 |n+1=>by simp only[Cj];rw[Q6 f m n,Ly]
theorem Pt (f:Nat->Nat):∀n,Cj f (n+1)=f 0+Cj (fun i=>f (i+1)) n
 |0=>by simp[Cj]
 |n+1=>by rw[Cj,Pt f n,Cj];omega
theorem Q7 (f:Nat->Nat):∀n,Cj f n=Cj (fun i=>f (n-1-i)) n
 |0=>rfl
 |n+1=>by
  rw[Pt (fun i=>f (n+1-1-i)) n,Cj,Q7 f n]
  rw[Fl (g:=fun i=>f (n+1-1-(i+1))) n (fun i hi=>by congr 1;omega)]
  have:f (n+1-1-0)=f n:=by congr 1
  omega
theorem Xx {f g:Nat->Nat}:∀n,(∀i,i<n->f i<=g i)->Cj f n<=Cj g n
 |0,_=>Nat.le_refl _
 |n+1,h=>by simp only[Cj];have:=Xx n fun i hi=>h i (by omega);have:=h n (by omega);omega
theorem Xy :∀n,Cj (fun i=>i) n=n*(n-1)/2
 |0=>rfl
 |n+1=>by
  simp only[Cj]
  rw[Xy n]
  cases n with
  |zero=>rfl
  |succ n=>
   have e:(n+1+1)*(n+1+1-1)=(n+1)*(n+1-1)+2*(n+1):=by
    simp only[Nat.add_sub_cancel];rw[Nat.mul_comm (n+1+1)];exact(Nat.mul_add (n+1) n 2).trans (by rw[Nat.mul_comm (n+1) 2])
   rw[e];omega
theorem T8 (c:Nat) (f:Nat->Nat):∀n,Cj (fun i=>c*f i) n=c*Cj f n
 |0=>rfl
 |n+1=>by simp only[Cj];rw[T8 c f n,Nat.mul_add]
theorem K5 (c:Nat):∀n,Cj (fun _=>c) n=c*n
 |0=>rfl
 |n+1=>by simp only[Cj];rw[K5 c n,Nat.mul_add_one]
theorem U9 (x m:Nat) (hm:0<m):∀Y,Cj (fun j=>if m*(j+1)<=x then 1 else 0) Y=min Y (x/m)
 |0=>by simp[Cj]
 |Y+1=>by
  simp only[Cj]
  rw[U9 x m hm Y]
  have:m*(Y+1)<=x↔Y+1<=x/m:=by rw[Nat.le_div_iff_mul_le hm,Nat.mul_comm]
  split<;>omega
theorem P4 (a b c:Nat) (ha:0<a) (hb:b<c):∀n,Cj (fun i=>if c<=a*i+b then 1 else 0) n=(a*n+b-c)/a
 |0=>by simp[Cj];rw[Nat.div_eq_of_lt];omega
 |n+1=>by
  simp only[Cj]
  rw[P4 a b c ha hb n,Nat.mul_add_one]
  by_cases h:c<=a*n+b
  ·rw[if_pos h,show a*n+a+b-c=(a*n+b-c)+a by omega,Nat.add_div_right _ ha]
  ·rw[if_neg h,show a*n+b-c=0 by omega,Nat.zero_div,Nat.div_eq_of_lt (by omega)]
def Eu (n a b m:Nat):Nat:=Cj (fun i=>(a*i+b)/m) n
theorem Wm (n a b m:Nat) (hm:0<m):Eu n a b m=a/m*(n*(n-1)/2)+b/m*n+Eu n (a%m) (b%m) m:=by
 unfold Eu
 rw[<-Xy,<-T8,<-K5,<-Ly,<-Ly]
 refine Fl n fun i _=> ?_
 have e:a*i+b=m*(a/m*i+b/m)+(a%m*i+b%m):=by
  have e1:=Nat.div_add_mod a m
  have e2:=Nat.div_add_mod b m
  have e3:a*i=m*(a/m*i)+a%m*i:=by
   rw[<-Nat.mul_assoc,<-Nat.add_mul,e1]
  rw[Nat.mul_add];omega
 rw[e,Nat.mul_add_div hm]
theorem Wn (n a b m:Nat) (hm:0<m) (h:a*n+b<m):Eu n a b m=0:=by
 unfold Eu
 rw[<-Mw n]
 refine Fl n fun i hi=>Nat.div_eq_of_lt ?_
 have:=Nat.mul_le_mul_left a (Nat.le_of_lt hi)
 omega
theorem Zd (n a b m:Nat) (ha:0<a) (hm:0<m) (hb:b<m):Eu n a b m=Eu ((a*n+b)/m) m ((a*n+b)%m) a:=by
 have hY:∀i,i<n->(a*i+b)/m<=(a*n+b)/m:=fun i hi=>Nat.div_le_div_right (by have:=Nat.mul_le_mul_left a (Nat.le_of_lt hi);omega)
 unfold Eu
 rw[Fl (g:=fun i=>Cj (fun j=>if m*(j+1)<=a*i+b then 1 else 0) ((a*n+b)/m)) n fun i hi=>by rw[U9 _ m hm];have:=hY i hi;omega]
 rw[Q6,Q7]
 refine Fl _ fun j hj=> ?_
 generalize hq:(a*n+b)/m=Y at*
 have e0:=Nat.div_add_mod (a*n+b) m
 rw[hq] at e0
 rw[P4 a b _ ha (by rw[Nat.mul_add_one];omega)]
 congr 1
 have e1:m*(Y-1-j+1)+m*j=m*Y:=by rw[<-Nat.mul_add];congr 1;omega
 omega
theorem floSum_le (n a b m:Nat) (hm:0<m) (ha:a<m) (hb:b<m):Eu n a b m<=(n+1)*n:=by
 unfold Eu
 rw[<-K5]
 refine Xx n fun i hi=> ?_
 rw[Nat.div_le_iff_le_mul_add_pred hm]
 have h1:a*i<=m*i:=Nat.mul_le_mul_right i (by omega)
 have h2:m*i<=m*n:=Nat.mul_le_mul_left m (by omega)
 rw[Nat.mul_add_one];omega
end Go.Proofs.YtdeghcgakkhbmaaGreat
namespace Go.Proofs.YtdeghcgakkhbmaaGreat
open Go.RowKit

def Ze (n a b m:Int):Int:=(Eu n.toNat a.toNat b.toNat m.toNat:Int)
structure Qy (F n a b m t:Int):Prop where
 n0:0<=n
 n1:n<=256
 a0:0<=a
 a1:a<=281474976710656
 b0:0<=b
 b1:b<=281474976710656
 m0:1<=m
 m1:m<=281474976710656
 t0:0<=t
 eq:t+Ze n a b m=F
 F1:F<=100000
structure SmallStep (F n a b m t:Int):Prop where
 p0:0<=n*(n-1)/2
 e1:wrap64 (a.tdiv m)=a/m
 e2:wrap64 (b.tdiv m)=b/m
 e3:wrap64 (a/m*(n*(n-1)/2))=a/m*(n*(n-1)/2)
 e4:wrap64 (b/m*n)=b/m*n
 e5:wrap64 (a/m*(n*(n-1)/2)+b/m*n)=a/m*(n*(n-1)/2)+b/m*n
 e6:wrap64 (t+(a/m*(n*(n-1)/2)+b/m*n))=t+(a/m*(n*(n-1)/2)+b/m*n)
 e7:a.tmod m=a%m
 e8:b.tmod m=b%m
 e9:wrap64 (a%m*n)=a%m*n
 e10:wrap64 (a%m*n+b%m)=a%m*n+b%m
 e11:wrap64 ((a%m*n+b%m).tdiv m)=(a%m*n+b%m)/m
 e12:(a%m*n+b%m).tmod m=(a%m*n+b%m)%m
 done:a%m*n+b%m<m->t+(a/m*(n*(n-1)/2)+b/m*n)=F
 next:m<=a%m*n+b%m->Qy F ((a%m*n+b%m)/m) m ((a%m*n+b%m)%m) (a%m) (t+(a/m*(n*(n-1)/2)+b/m*n))/\(a%m).toNat<m.toNat
theorem Qy.step {F n a b m t:Int} (h:Qy F n a b m t):SmallStep F n a b m t:=by
 obtain⟨n0,n1,a0,a1,b0,b1,m0,m1,t0,eq,F1⟩:=h
 obtain⟨n,rfl⟩:=Int.eq_ofNat_of_zero_le n0
 obtain⟨a,rfl⟩:=Int.eq_ofNat_of_zero_le a0
 obtain⟨b,rfl⟩:=Int.eq_ofNat_of_zero_le b0
 obtain⟨m,rfl⟩:=Int.eq_ofNat_of_zero_le (show 0<=m by omega)
 have hm:0<m:=by omega
 have hp:(n:Int)*((n:Int)-1)/2=((n*(n-1)/2:Nat):Int):=by
  cases n with
  |zero=>rfl
  |succ n=>simp
 have hs:=Wm n a b m hm
 have q1:(a:Int)/m=((a/m:Nat):Int):=rfl
 have q2:(b:Int)/m=((b/m:Nat):Int):=rfl
 have r1:(a:Int)%m=((a%m:Nat):Int):=rfl
 have r2:(b:Int)%m=((b%m:Nat):Int):=rfl
 have g1:=Nat.mod_lt a hm
 have g2:=Nat.mod_lt b hm
 have ef:Ze n a b m=(Eu n a b m:Int):=rfl
 rw[ef,hs] at eq
 have k1:a%m*n<=m*n:=Nat.mul_le_mul_right n (by omega)
 have k2:m*n<=281474976710656*256:=Nat.mul_le_mul (by omega) (by omega)
 have l1:((a%m*n+b%m:Nat):Int)/m=(((a%m*n+b%m)/m:Nat):Int):=rfl
 have l2:((a%m*n+b%m:Nat):Int)%m=(((a%m*n+b%m)%m:Nat):Int):=rfl
 have l3:(a%m*n+b%m)/m<=n:=by
  rw[Nat.div_le_iff_le_mul_add_pred hm];omega
 have l4:=Nat.mod_lt (a%m*n+b%m) hm
 have d1:a/m<=a:=Nat.div_le_self _ _
 have d2:b/m<=b:=Nat.div_le_self _ _
 have c1:(((a%m:Nat):Int)*(n:Int)+((b%m:Nat):Int))=((a%m*n+b%m:Nat):Int):=by simp
 have c2:((a/m:Nat):Int)*((n*(n-1)/2:Nat):Int)=((a/m*(n*(n-1)/2):Nat):Int):=by simp
 have c3:((b/m:Nat):Int)*(n:Int)=((b/m*n:Nat):Int):=by simp
 have c4:((a%m:Nat):Int)*(n:Int)=((a%m*n:Nat):Int):=by simp
 have w64:∀x:Nat,x<=100000000000000000->wrap64 (x:Int)=x:=fun x h=>by rw[Ak];omega
 have c5:Eu n (a%m) (b%m) m=Eu ((a%m*n+b%m)/m) m ((a%m*n+b%m)%m) (a%m)∨a%m*n+b%m<m:=by
  rcases Nat.lt_or_ge (a%m*n+b%m) m with h|h
  ·exact .inr h
  ·refine .inl (Zd n (a%m) (b%m) m ?_ hm g2)
   rcases Nat.eq_zero_or_pos (a%m) with h0|h0
   ·rw[h0] at h;omega
   ·exact h0
 have c6:a%m*n+b%m<m->Eu n (a%m) (b%m) m=0:=Wn n (a%m) (b%m) m hm
 constructor
 ·rw[hp];exact Int.natCast_nonneg _
 ·rw[Int.tdiv_eq_ediv_of_nonneg (by omega),q1];exact w64 _ (by omega)
 ·rw[Int.tdiv_eq_ediv_of_nonneg (by omega),q2];exact w64 _ (by omega)
 ·rw[hp,q1,c2];exact w64 _ (by omega)
 ·rw[q2,c3];exact w64 _ (by omega)
 ·rw[hp,q1,c2,q2,c3];rw[Ak];omega
 ·rw[hp,q1,c2,q2,c3];rw[Ak];omega
 ·exact Int.tmod_eq_emod_of_nonneg (by omega)
 ·exact Int.tmod_eq_emod_of_nonneg (by omega)
 ·rw[r1,c4];exact w64 _ (by omega)
 ·rw[r1,r2,c1];exact w64 _ (by omega)
 ·rw[r1,r2,c1,Int.tdiv_eq_ediv_of_nonneg (by omega),l1];exact w64 _ (by omega)
 ·rw[r1,r2,c1];exact Int.tmod_eq_emod_of_nonneg (by omega)
 ·intro h
  rw[r1,r2,c1] at h
  have:=c6 (by omega)
  rw[hp,q1,c2,q2,c3];omega
 ·intro h
  rw[r1,r2,c1] at h
  rw[hp,q1,c2,q2,c3,r1,r2,c1,l1,l2]
  refine⟨⟨Int.natCast_nonneg _,Int.ofNat_le.2 (show _<=256 by omega),Int.natCast_nonneg _,m1,Int.natCast_nonneg _,Int.ofNat_le.2 (show _<=281474976710656 by omega),?_,Int.ofNat_le.2 (show _<=281474976710656 by omega),?_,?_,F1⟩,?_⟩
  ·rcases Nat.eq_zero_or_pos (a%m) with h0|h0
   ·rw[h0] at h;omega
   ·exact Int.ofNat_le.2 (show 1<=_ from h0)
  ·have:=Int.natCast_nonneg (a/m*(n*(n-1)/2));have:=Int.natCast_nonneg (b/m*n);omega
  ·have e:Ze (((a%m*n+b%m)/m:Nat):Int) (m:Int) (((a%m*n+b%m)%m:Nat):Int) ((a%m:Nat):Int)=(Eu ((a%m*n+b%m)/m) m ((a%m*n+b%m)%m) (a%m):Int):=rfl
   rw[e]
   rcases c5 with h5|h5
   ·rw[<-h5];omega
   ·omega
  ·show a%m<m;exact g1

def rowCells (s n a b m:Int):Array Value:= #[.int .i64 (hiW s),.int .u64 (loW s),n,.int .i64 (hiW a),.int .u64 (loW a),.int .i64 (hiW b),.int .u64 (loW b),m]



def sumI (f:Nat->Int):Nat->Int
 |0=>0
 |n+1=>sumI f n+f n
def stepSum (n a b m:Int):Int:=a/m*(n*(n-1)/2)+b/m*n+Ze n (a%m) (b%m) m
theorem pairs_cast (n:Nat):(n:Int)*((n:Int)-1)/2=((n*(n-1)/2:Nat):Int):=by
 cases n with
 |zero=>rfl
 |succ n=>simp
theorem Mo {a b:Int} {x y:Nat} (ha:a.natAbs<=x) (hb:b.natAbs<=y):(a*b).natAbs<=x*y:=by
 rw[Int.natAbs_mul];exact Nat.mul_le_mul ha hb
structure Mf (n a b m:Int):Prop where
 n0:0<=n
 n1:n<=256
 a1:a.natAbs<=2596148429267413814265248164610048
 b1:b.natAbs<=2596148429267413814265248164610048
 m0:1<=m
 m1:m<=281474976710656
theorem Mf.pairs {n a b m:Int} (h:Mf n a b m):0<=n*(n-1)/2/\n*(n-1)/2<=32640:=by
 have h0:=h.n0;have h1:=h.n1
 obtain⟨k,rfl⟩:=Int.eq_ofNat_of_zero_le h0
 rw[pairs_cast]
 have:k*(k-1)<=256*255:=Nat.mul_le_mul (by omega) (by omega)
 refine⟨Int.natCast_nonneg _,Int.ofNat_le.2 (show _<=32640 by omega)⟩
theorem Mf.flo {n a b m:Int} (h:Mf n a b m):0<=Ze n (a%m) (b%m) m/\Ze n (a%m) (b%m) m<=65792:=by
 have h0:=h.n0;have h1:=h.n1;have m0:=h.m0
 have r0:=Int.emod_nonneg a (show m≠0 by omega)
 have r1:=Int.emod_nonneg b (show m≠0 by omega)
 have l0:=Int.emod_lt_of_pos a (show 0<m by omega)
 have l1:=Int.emod_lt_of_pos b (show 0<m by omega)
 unfold Ze
 have:=floSum_le n.toNat (a%m).toNat (b%m).toNat m.toNat (by omega) (by omega) (by omega)
 have h2:(n.toNat+1)*n.toNat<=257*256:=Nat.mul_le_mul (by omega) (by omega)
 omega
theorem Mf.small {n a b m:Int} (h:Mf n a b m):Qy (Ze n (a%m) (b%m) m) n (a%m) (b%m) m 0:=by
 have m0:=h.m0;have m1:=h.m1
 have r0:=Int.emod_nonneg a (show m≠0 by omega)
 have r1:=Int.emod_nonneg b (show m≠0 by omega)
 have l0:=Int.emod_lt_of_pos a (show 0<m by omega)
 have l1:=Int.emod_lt_of_pos b (show 0<m by omega)
 have:=h.flo
 exact⟨h.n0,h.n1,r0,by omega,r1,by omega,m0,m1,by omega,by omega,by omega⟩
structure FlineOk (f s n:Int):Prop where
 f0:0<=f
 s0:0<=s
 s1:s<=281474976710656
 n0:1<=n
 n1:n<=256
 all:f+(n-1)*s<=281474976710656
theorem FlineOk.last {f s n:Int} (h:FlineOk f s n):0<=(n-1)*s:=Int.mul_nonneg (by have:=h.n0;omega) h.s0
theorem last_w (f s c c1 p x:Int) (w:World) (e1:wrap64 (c-1)=c1) (e2:wrap64 (s*c1)=p) (e3:wrap64 (f+p)=x):
  Cb 184 #[.agg #[f,s,c]] w (x):=by
 go_enter Tryz.func184,Tryz.ntmps184
 go_wp2
 refine bodyPost_ret (by simp[results,Tryz.results184,go_sem,e3]) rfl ⟨rfl,by exact Aa⟩
theorem sure_t (w:World):Calls Tryz.prog 183 #[.bool true] w fun e w'=>e= .returned (.tuple #[])/\w'=w:=by
 go_enter Tryz.func183,Tryz.ntmps183
 go_wp2
 go_end0
 exact⟨rfl,rfl⟩
theorem sure_f (w:World):Calls Tryz.prog 183 #[.bool false] w fun e w'=>e= .panicked [{v:= .iface 36 (.int .i64 170),recovered:=false}]/\w'=w:=by
 go_enter Tryz.func183,Tryz.ntmps183
 go_wp2
 simp[bodyPost]
theorem Qf (p:Addr) (x:Bool) (u:TypeId) (pv:Value) (older:List PanicEntry) (w:World) (hc:w.cell? p=some (.bool x)) (hz:w.frozen? p=false):
  CallsD Tryz.prog 182 #[.pointer (some p)] (.panicking ({v:= .iface u pv,recovered:=false}::older)) w fun e u' w'=>
   e= .returned (.tuple #[])/\u'= .panicking ({v:= .iface u pv,recovered:=true}::older)/\w'=w.setCell p (.bool false):=by
 refine callsD_of_wpS Tryz.func182 rfl fun c₀ cs hu=> ?_
 apply wpS_seq
 apply wpS_region
 simp[wpOpsS,go_sem,recoverD,hu,Tryz.ntmps182,Exit.thenS]
 refine wpS_cond (t:=true) (by simp[Act.eval,Array.replicate]) ?_
 simp only[if_true]
 apply wpS_region
 simp[wpOpsS,go_sem,hc,hz,bodyPostS,results,Tryz.results182]
theorem catch_idle (p:Addr) (w:World):
  CallsD Tryz.prog 182 #[.pointer (some p)] .returning w fun e u' w'=>e= .returned (.tuple #[])/\u'= .returning/\w'=w:=by
 refine callsD_of_wpS Tryz.func182 rfl fun c₀ cs hu=> ?_
 apply wpS_seq
 apply wpS_region
 simp[wpOpsS,go_sem,recoverD,hu,Tryz.ntmps182,Exit.thenS]
 refine wpS_cond (t:=false) (by simp[Act.eval,Array.replicate]) ?_
 simp only[Bool.false_eq_true,if_false]
 refine wpS_of_wp (wp_skip ?_)
 cases c₀
 simp_all [bodyPostS,results,Tryz.results182]
structure Ah where
 f:Int
 s:Int
 c:Int
structure Al (w:World) (p:Option Addr) (l:List Ah):Prop where
 at':∀(i:Nat) (r:Ah),l[i]? =some r->∃b o,p=some ⟨b,o,none⟩/\w.cell? ⟨b,o+i*3,none⟩=some (r.f)/\w.cell? ⟨b,o+i*3+1,none⟩=some (r.s)/\w.cell? ⟨b,o+i*3+2,none⟩=some (r.c)
theorem Ap {w:World} {b o:Nat} {v:Value} (h:w.cell? ⟨b,o,none⟩=some v):b<w.heap.size:=by
 by_cases hlt:b<w.heap.size
 ·exact hlt
 ·have hn:w.heap[b]? =none:=by simp;omega
  simp[World.cell?,hn] at h
theorem Al.below {w w':World} {p:Option Addr} {l:List Ah} (h:Al w p l) (hb:Below w.heap.size w w'):Al w' p l:=⟨fun i r hr=>by
 obtain⟨b,o,e,h1,h2,h3⟩:=h.at' i r hr
 have hB:=(Dc hb).1
 exact⟨b,o,e,(hB b _ (Ap h1)).trans h1,(hB b _ (Ap h2)).trans h2,(hB b _ (Ap h3)).trans h3⟩⟩
theorem Al.drew {w:World} {p:Option Addr} {l:List Ah} (h:Al w p l):Al w.drew p l:=⟨h.at'⟩
def C3 (l:List Ah):Nat->Int
 |0=>0
 |n+1=>C3 l n+((l[n]?).map (·.c)).getD 0
theorem many_w (p:Option Addr) (len cap:Nat) (l:List Ah) (w:World) (hl:l.length=len) (hlen:len<=256) (h:Al w p l) (hc:∀(i:Nat) (r:Ah),l[i]? =some r->0<=r.c/\r.c<=256):
  Cb 170 #[.slice p len cap] w (.int .i64 (C3 l len)):=by
 go_enter Tryz.func170,Tryz.ntmps170
 go_wp2
 refine wp_loop (fun a' W=>Below w.heap.size w W/\∃(i:Nat) (n:Int) (u1 u4 u5 u9 u10 u11 u12 u13 u14 u15 u16 u17:Value),a'= {tmps:= #[(.slice p len cap),u1,.int .i64 0,n,u4,u5,(.slice p len cap),.int .i64 (len:Int),.int .i64 (i:Int),u9,u10,u11,u12,u13,u14,u15,u16,u17],defers:= []}/\i<=len/\n=C3 l i/\0<=n/\n<=256*(i:Int)) (fun a' _=>len-(Ag (a'.tmps.getD 8 undef)).toNat) ?_ ?_
 ·exact⟨Below.refl _ _,0,0,_,_,_,_,_,_,_,_,_,_,_,_,rfl,by omega,rfl,by omega,by omega⟩
 ·rintro a' W ⟨hW,i,n,u1,u4,u5,u9,u10,u11,u12,u13,u14,u15,u16,u17,rfl,hi,hn,hn0,hn1⟩
  have hz:=hW.size
  rcases Nat.lt_or_ge i len with hlt|hge
  ·have hd:decide ((i:Int)<(len:Int))=true:=by simp;omega
   obtain⟨r,hr⟩:∃r,l[i]? =some r:=⟨l[i]'(by omega),List.getElem?_eq_getElem (by omega)⟩
   obtain⟨b,o,rfl,k0,k1,k2⟩:=(h.below hW).at' i r hr
   subst hn
   have hcr:=hc i r hr
   have e1:wrap64 (C3 l i+r.c)=C3 l i+r.c:=by rw[Ak];omega
   have e2:wrap64 ((i:Int)+1)=((i+1:Nat):Int):=by rw[Ak];omega
   have e3:C3 l (i+1)=C3 l i+r.c:=by simp[C3,hr]
   go_wp2
   rw[show (i:Int)+1=((i+1:Nat):Int) by omega]
   refine⟨⟨Aa,i+1,C3 l i+r.c,_,_,_,_,_,_,_,_,_,_,_,_,rfl,by omega,by omega,by omega,by omega⟩,by simp[Ag];omega⟩
  ·have hd:decide ((i:Int)<(len:Int))=false:=by simp;omega
   have e:i=len:=by omega
   go_wp2
   subst e
   subst hn
   go_ret
   exact⟨rfl,hW⟩
attribute [local simp] Oper.looksAt Op.operands Call.operands Af Det Am
theorem Xa (b:Bool) (w:World):Calls Tryz.prog 183 #[.bool b] w fun e w'=>w'=w/\(b=true/\e= .returned (.tuple #[])∨b=false/\e= .panicked [{v:= .iface 36 (.int .i64 170),recovered:=false}]):=by
 cases b with
 |true=>exact(sure_t w).mono fun e w' ⟨h1,h2⟩=>⟨h2,.inl ⟨rfl,h1⟩⟩
 |false=>exact(sure_f w).mono fun e w' ⟨h1,h2⟩=>⟨h2,.inr ⟨rfl,h1⟩⟩
def MT:Int:=281474976710656
def Dq (r:Ah):Int:=r.f+r.s*(r.c-1)
def Rb (r:Ah):Bool:=decide (1<=r.c)&&decide (r.c<=256)&&decide (0<=r.f)&&decide (r.f<=281474976710656)&&decide (0<=r.s)&&decide (r.s<=281474976710656)
def run2 (len i:Nat) (r:Ah):Bool:=(decide (r.c=1)==decide (r.s=0))&&(decide (1<r.c)||decide ((i:Int)=(len:Int)-1))&&decide (Dq r<=281474976710656)
def run3 (q r:Ah):Bool:=decide (Dq q<r.f)&&(r.f-Dq q !=q.s)
def M5 (l:List Ah) (i:Nat):Bool:=match l[i]? with
 |some r=>Rb r&&run2 l.length i r&&(decide (i=0)||(match l[i-1]? with|some q=>run3 q r|none=>true))
 |none=>true
def M4 (l:List Ah):Nat->Bool
 |0=>true
 |i+1=>M4 l i&&M5 l i
def Et (l:List Ah):Bool:=(decide (0<l.length)&&decide ((l.length:Int)<=256))&&M4 l l.length&&decide (C3 l l.length<=256)
theorem Vx {r:Ah} (h:Rb r=true):(0<=r.f/\r.f<=281474976710656)/\(0<=r.s/\r.s<=281474976710656)/\1<=r.c/\r.c<=256:=by
 unfold Rb at h;simp at h;omega
theorem okAt_1 {l:List Ah} {i:Nat} {r:Ah} (hr:l[i]? =some r) (h:Rb r=false):M5 l i=false:=by unfold M5;rw[hr];simp[h]
theorem okAt_2 {l:List Ah} {i:Nat} {r:Ah} (hr:l[i]? =some r) (h:run2 l.length i r=false):M5 l i=false:=by unfold M5;rw[hr];simp[h]
theorem okAt_3 {l:List Ah} {i:Nat} {q r:Ah} (hr:l[i]? =some r) (hi:0<i) (hq:l[i-1]? =some q) (h:run3 q r=false):M5 l i=false:=by unfold M5;rw[hr];simp[hq,h];omega
theorem c_last (r:Ah) (w:World) (hf:0<=r.f/\r.f<=281474976710656) (hs:0<=r.s/\r.s<=281474976710656) (hc:1<=r.c/\r.c<=256):
  Cb 184 #[.agg #[r.f,r.s,r.c]] w (.int .i64 (Dq r)):=by
 have m:(r.s*(r.c-1)).natAbs<=281474976710656*256:=Mo (by omega) (by omega)
 exact last_w r.f r.s r.c (r.c-1) (r.s*(r.c-1)) (Dq r) w (by rw[Ak];omega) (by rw[Ak];omega) (by unfold Dq;rw[Ak];omega)
theorem Rl {l:List Ah} {i:Nat} (h:M5 l i=false):∀n,i<n->M4 l n=false
 |0,hn=>by omega
 |n+1,hn=>by
  simp only[M4]
  rcases Nat.lt_or_ge i n with k|k
  ·rw[Rl h n k];rfl
  ·have:i=n:=by omega
   subst this;rw[h,Bool.and_false]
theorem J7 {l:List Ah} {i:Nat} (h:M5 l i=false) (hi:i<l.length):Et l=false:=by
 unfold Et;rw[Rl h _ hi,Bool.and_false,Bool.false_and]
theorem L3 (w W:World) (tmps:Array Value) (d:List Deferred) (u:TypeId) (pv:Value) (hs:tmps[2]?.getD undef= .pointer (some ⟨w.heap.size,0,none⟩)) (hd:d= [{target:= .fn (.func 182) #[.pointer (some ⟨w.heap.size,0,none⟩)],args:= #[]}])
  (hW:Below w.heap.size w W) (hb:Blk W w.heap.size #[.bool false] 4) (b:Bool) (hf:b=false):
  Leaves Tryz.prog Tryz.f169 tmps (fun e w'=>e= .returned (.bool b)/\Below w.heap.size w w') d (.panicking [{v:= .iface u pv,recovered:=false}]) W:=by
 subst hd hf
 refine leaves_cons (f:=182) (args:= #[.pointer (some ⟨w.heap.size,0,none⟩)]) (by simp) (by simp[go_sem]) ?_
 have k1:=hb.cell
 have f1:=hb.frozen
 refine(Qf ⟨w.heap.size,0,none⟩ false u pv [] W (by simp[k1]) (by simp[f1])).mono ?_
 rintro e u' w'' ⟨rfl,rfl,rfl⟩
 refine⟨.bool false,by simp[results,Tryz.results169,go_sem,hs,k1,f1],rfl,Aa⟩
theorem rises_ret (w W:World) (tmps:Array Value) (d:List Deferred) (hs:tmps[2]?.getD undef= .pointer (some ⟨w.heap.size,0,none⟩)) (hd:d= [{target:= .fn (.func 182) #[.pointer (some ⟨w.heap.size,0,none⟩)],args:= #[]}])
  (hW:Below w.heap.size w W) (v:Bool) (hb:Blk W w.heap.size #[.bool v] 4) (b:Bool) (hf:b=v):
  Leaves Tryz.prog Tryz.f169 tmps (fun e w'=>e= .returned (.bool b)/\Below w.heap.size w w') d .returning W:=by
 subst hd hf
 refine leaves_cons (f:=182) (args:= #[.pointer (some ⟨w.heap.size,0,none⟩)]) (by simp) (by simp[go_sem]) ?_
 have k1:=hb.cell
 have f1:=hb.frozen
 refine(catch_idle ⟨w.heap.size,0,none⟩ W).mono ?_
 rintro e u' w'' ⟨rfl,rfl,rfl⟩
 refine⟨.bool b,by simp[results,Tryz.results169,go_sem,hs,k1,f1],rfl,hW⟩
theorem Us {l:List Ah} {i:Nat} {r:Ah} (hok:M4 l i=true) (hr:l[i]? =some r) (g1:Rb r=true) (g2:run2 l.length i r=true) (h:i=0∨∃q,l[i-1]? =some q/\run3 q r=true):M4 l (i+1)=true:=by
 simp only[M4,M5,hr,hok,g1,g2,Bool.true_and,Bool.and_true]
 rcases h with rfl|⟨q,hq,g3⟩
 ·simp
 ·simp[hq,g3]
theorem Ut {l:List Ah}:∀ {i j:Nat} {q:Ah},M4 l i=true->j<i->l[j]? =some q->Rb q=true
 |0,_,_,_,hj,_=>by omega
 |i+1,j,q,h,hj,hq=>by
  simp only[M4,Bool.and_eq_true] at h
  rcases Nat.lt_or_ge j i with k|k
  ·exact Ut h.1 k hq
  ·have:j=i:=by omega
   subst this
   have:=h.2
   unfold M5 at this
   rw[hq] at this
   simp at this
   exact this.1.1
theorem lastI_bd {r:Ah} (hf:0<=r.f/\r.f<=281474976710656) (hs:0<=r.s/\r.s<=281474976710656) (hc:1<=r.c/\r.c<=256):0<=Dq r/\Dq r<=281474976710656*257:=by
 have m:(r.s*(r.c-1)).natAbs<=281474976710656*256:=Mo (by omega) (by omega)
 have m0:0<=r.s*(r.c-1):=Int.mul_nonneg (by omega) (by omega)
 unfold Dq;omega
theorem Al.cells {w:World} {b o:Nat} {l:List Ah} (h:Al w (some ⟨b,o,none⟩) l) {i:Nat} {r:Ah} (hr:l[i]? =some r):w.cell? ⟨b,o+i*3,none⟩=some (r.f)/\w.cell? ⟨b,o+i*3+1,none⟩=some (r.s)/\w.cell? ⟨b,o+i*3+2,none⟩=some (r.c):=by
 obtain⟨b',o',e,h1,h2,h3⟩:=h.at' i r hr
 cases e
 exact⟨h1,h2,h3⟩
theorem Al.rex {L:List Nat} {w w':World} {p:Option Addr} {l:List Ah} (h:Al w p l) (hr:Rex L w w') (hL:L= []):Al w' p l:=by subst hL;exact h.below hr.below
theorem prev_facts {l:List Ah} {i:Nat} {r:Ah} (hok:M4 l i=true) (hlt:i<l.length) (hlen:l.length<=256):0<i->Rb r=true->∃q,l[i-1]? =some q/\((0<=q.f/\q.f<=281474976710656)/\(0<=q.s/\q.s<=281474976710656)/\(1<=q.c/\q.c<=256))/\wrap64 ((i:Int)-1)=((i-1:Nat):Int)/\i-1<l.length/\decide (0<(i:Int))=true/\wrap64 (r.f-Dq q)=r.f-Dq q:=by
 intro hi0 g1
 obtain⟨q,hq⟩:∃q,l[i-1]? =some q:=⟨l[i-1]'(by omega),List.getElem?_eq_getElem (by omega)⟩
 obtain⟨a1,a2,a3⟩:=Vx (Ut hok (show i-1<i by omega) hq)
 obtain⟨r1,r2,r3⟩:=Vx g1
 have hlq:=lastI_bd a1 a2 a3
 exact⟨q,hq,⟨a1,a2,a3⟩,by rw[Ak];omega,by omega,by simp;omega,by rw[Ak];omega⟩
theorem Ql (p:Option Addr) (cap:Nat) (l:List Ah) (w:World) (hlen:l.length<=9223372036854775807) (h:Al w p l):
  Cb 169 #[.slice p l.length cap] w (.bool (Et l)):=by
 have hmf:∀(fn:Fn) (first cap:Array Value) (w:World),(Instr.makeFunc fn first cap).run Tryz.prog w= .ok (.func fn first cap) w:=fun _ _ _ _=>rfl
 go_enter_defers Tryz.func169,Tryz.ntmps169
 go_upto_region 2 with(fail)
 refine Ab w (Bc w.heap.size #[.bool false] 4<|Bz) ?_
 rintro W1 hW z2 hL
 refine Bg 8 109 hW hL ?_
 iterate 4 refine dA ?_
 iterate 3 refine gA ?_
 refine pA ?_
 clear hW hL
 rintro W3 hW z4 hL
 simp only[ndR]
 intros
 repeat (rename Am _ _ _ _=>hgd;clear hgd)
 simp only[ndS]
 obtain⟨⟨b1,yb1,k1,f1⟩,-⟩:=hL
 go_wp2_with fail
 refine(Xa _ _).mono ?_
 rintro e w' ⟨rfl,hh⟩
 rcases hh with⟨hb,rfl⟩|⟨hb,rfl⟩
 ·have hlen':0<l.length/\l.length<=256:=by simp at hb;omega
  clear hlen
  go_wp2
  refine wp_loop (fun a' W=>Below w.heap.size w W/\Blk W w.heap.size #[.bool false] 4/\∃(i:Nat) (n:Int),(∃u:Nat->Value,a'= {tmps:= #[(.slice p l.length cap),u 1,.pointer (some ⟨w.heap.size,0,none⟩),n,u 4,u 5,u 6,.func (.func 182) #[] #[.pointer (some ⟨w.heap.size,0,none⟩)],u 8,u 9,u 10,u 11,u 12,u 13,u 14,u 15,u 16,(.slice p l.length cap),.int .i64 (l.length:Int),.int .i64 (i:Int),u 20,u 21,u 22,u 23,u 24,u 25,u 26,u 27,u 28,u 29,u 30,u 31,u 32,u 33,u 34,u 35,u 36,u 37,u 38,u 39,u 40,u 41,u 42,u 43,u 44,u 45,u 46,u 47,u 48,u 49,u 50,u 51,u 52,u 53,u 54,u 55,u 56,u 57,u 58,u 59,u 60,u 61,u 62,u 63,u 64,u 65,u 66,u 67,u 68,u 69,u 70,u 71,u 72,u 73,u 74,u 75,u 76,u 77,u 78,u 79,u 80,u 81,u 82,u 83,u 84,u 85,u 86,u 87,u 88,u 89,u 90,u 91,u 92,u 93,u 94,u 95,u 96,u 97,u 98,u 99,u 100,u 101,u 102,u 103,u 104,u 105,u 106,u 107,u 108],defers:= [{target:= .fn (.func 182) #[.pointer (some ⟨w.heap.size,0,none⟩)],args:= #[]}]})/\i<=l.length/\M4 l i=true/\n=C3 l i/\0<=n/\n<=256*(i:Int)) (fun a' _=>l.length-(Ag (a'.tmps.getD 19 undef)).toNat) ?_ ?_
  ·exact⟨hW,b1,0,0,Ac rfl,by omega,rfl,rfl,by omega,by omega⟩
  ·rintro a' W0 ⟨hW,b1,i,n,⟨u,rfl⟩,hi,hok,hn,hn0,hn1⟩
   have hz:=hW.size
   subst hn
   rcases Nat.lt_or_ge i l.length with hlt|hge
   ·have hd:decide ((i:Int)<(l.length:Int))=true:=by simp;omega
    obtain⟨r,hr⟩:∃r,l[i]? =some r:=⟨l[i]'(by omega),List.getElem?_eq_getElem (by omega)⟩
    obtain⟨b,o,rfl,q0,q1,q2⟩:=(h.below hW).at' i r hr
    have hprev:0<i->Rb r=true->∃q,l[i-1]? =some q/\((0<=q.f/\q.f<=281474976710656)/\(0<=q.s/\q.s<=281474976710656)/\(1<=q.c/\q.c<=256))/\wrap64 ((i:Int)-1)=((i-1:Nat):Int)/\i-1<l.length/\decide (0<(i:Int))=true/\wrap64 (r.f-Dq q)=r.f-Dq q:=prev_facts hok hlt (by omega)
    replace hprev:=Hd hprev
    go_upto_region 7 with(fail)
    refine Ab w (Bc w.heap.size #[.bool false] 4<|Bc W0.heap.size #[r.f,r.s,r.c] 141<|Bz) ?_
    clear b1 hW
    rintro W1 hW z2 hL
    refine Bg 28 109 hW hL ?_
    iterate 4 refine dA ?_
    iterate 3 refine gA ?_
    refine pA ?_
    refine dA ?_
    iterate 3 refine gA ?_
    refine pA ?_
    refine dA ?_
    iterate 3 refine gA ?_
    refine pA ?_
    refine dA ?_
    iterate 3 refine gA ?_
    refine pA ?_
    refine dA ?_
    iterate 3 refine gA ?_
    refine pA ?_
    clear hW hL
    rintro W3 hW z4 hL
    simp only[ndR]
    intros
    repeat (rename Am _ _ _ _=>hgd;clear hgd)
    simp only[ndS]
    obtain⟨⟨b1,yb1,k1,f1⟩,⟨b2,yb2,k2,f2⟩,-⟩:=hL
    clear q0 q1 q2
    go_wp2_with fail
    refine(Xa _ _).mono ?_
    rintro e w' ⟨rfl,hh⟩
    rcases hh with⟨hb,rfl⟩|⟨hb,rfl⟩
    rotate_left
    ·exact L3 w _ _ _ _ _ rfl rfl hW b1 _ (J7 (okAt_1 hr hb) hlt)
    have g1:Rb r=true:=hb
    obtain⟨⟨rf0,rf1⟩,⟨rs0,rs1⟩,rc0,rc1⟩:=Vx g1
    have e0:=Hd (show wrap64 ((l.length:Int)-1)=(l.length:Int)-1 by rw[Ak];omega)
    go_upto_region 8 with(fail)
    clear k1 f1 k2 f2
    refine Ab w (Bc w.heap.size #[.bool false] 4<|Bc W0.heap.size #[r.f,r.s,r.c] 141<|Bz) ?_
    clear b1 b2 hW
    rintro W5 hW z6 hL
    refine Bg 24 109 hW hL ?_
    iterate 8 refine dE (fun W' hC=>e0.out) ?_
    iterate 4 refine gE (fun W' hC=>e0.out) ?_
    iterate 5 refine gF (fun W' hC=>e0.out) ?_
    refine pgO ?_
    refine pA ?_
    refine dE (fun W' hC=>e0.out) ?_
    refine gE (fun W' hC=>e0.out) ?_
    apply Bu (p:=true) (hg:=rfl) (hd:=rfl) (hal:=rfl)
    ·intro v W' h
     simp at h
     simp
     exact h
    ·intro hp hx W' hC
     exact c_last r W' ⟨rf0,rf1⟩ ⟨rs0,rs1⟩ ⟨rc0,rc1⟩
    ·intro hp hx a W' hC hE
     obtain⟨_,⟨-,-,k1,-⟩,⟨-,-,k2,-⟩,-⟩:=hC
     first
      |(simp[hx] at hE;simp[go_sem,Act.eval,iw,hE,k1,k2,e0.out];try rfl)
      |(clear hE;simp[go_sem,Act.eval,iw,k1,k2,e0.out];try rfl)
    refine gE (fun W' hC=>e0.out) ?_
    refine pA ?_
    clear hW hL
    rintro W7 hW z8 hL
    simp only[ndR]
    intros
    repeat (rename Am _ _ _ _=>hgd;clear hgd)
    simp only[ndS]
    obtain⟨⟨b1,yb1,k1,f1⟩,⟨b2,yb2,k2,f2⟩,-⟩:=hL
    go_wp2_with fail
    refine(Xa _ _).mono ?_
    rintro e w' ⟨rfl,hh⟩
    rcases hh with⟨hb,rfl⟩|⟨hb,rfl⟩
    rotate_left
    ·exact L3 w _ _ _ _ _ rfl rfl hW b1 _ (J7 (okAt_2 hr hb) hlt)
    have g2:run2 l.length i r=true:=hb
    have e5:=Hd (show C3 l (i+1)=C3 l i+r.c by simp[C3,hr])
    clear e0
    rcases Nat.eq_zero_or_pos i with hi0|hi0
    ·subst hi0
     have k1:=b1.cell
     have f1:=b1.frozen
     have k2:=b2.cell
     have f2:=b2.frozen
     go_wp2
     exact⟨⟨hW,b1,1,C3 l 0+r.c,Ac rfl,by omega,Us hok hr g1 g2 (.inl rfl),e5.out.symm,by omega,by omega⟩,by simp[Ag];omega⟩
    ·obtain⟨q,hq,⟨qf,qs,qc⟩,e8,e9,hi1,e10⟩:=hprev.out hi0 g1
     replace e8:=Hd e8
     replace e10:=Hd e10
     have k1:=b1.cell
     have f1:=b1.frozen
     have k2:=b2.cell
     have f2:=b2.frozen
     go_upto_region 10 with(fail)
     clear k1 f1 k2 f2
     refine Ab w (Bc w.heap.size #[.bool false] 4<|Bc W0.heap.size #[r.f,r.s,r.c] 141<|Rc (fun W'=>Al W' (some ⟨b,o,none⟩) l)<|Bz) ?_ (hI:=by exact Aa) (hR:=(Bc.mk (by exact Ad)<|Bc.mk (by exact Ad)<|Rc.mk (by exact h.below (Aa))<|trivial))
     clear b1 b2 hW
     rintro W9 hW z10 hL
     obtain⟨⟨b1,yb1,k1,f1⟩,⟨b2,yb2,k2,f2⟩,b3,-⟩:=id hL
     clear k1 f1 k2 f2
     refine Dn 10 109 hW hL ?_
     iterate 7 refine dE (fun W' hC=>aI e8.out (aI e9 (aI e10.out (hC.2.2.2.1.cells hq)))) ?_
     refine cE (fun W' hC=>aI e8.out (aI e9 (aI e10.out (hC.2.2.2.1.cells hq)))) (fun W' hC=>c_last q W' qf qs qc) ?_
     iterate 2 refine dE (fun W' hC=>aI e8.out (aI e9 (aI e10.out (hC.2.2.2.1.cells hq)))) ?_
     clear hW hL b1 b2 b3
     rintro W11 hW z12 hL
     simp only[ndR]
     intros
     simp only[ndS]
     refine wpList_nil ?_
     obtain⟨⟨b1,yb1,k1,f1⟩,⟨b2,yb2,k2,f2⟩,b3,-⟩:=hL
     go_upto_region 11 with(fail)
     clear k1 f1 k2 f2
     refine Ab w (Bc w.heap.size #[.bool false] 4<|Bc W0.heap.size #[r.f,r.s,r.c] 141<|Rc (fun W'=>Al W' (some ⟨b,o,none⟩) l)<|Bz) ?_ (hI:=by exact Aa) (hR:=(Bc.mk (by exact Ad)<|Bc.mk (by exact Ad)<|Rc.mk (by exact h.below (Aa))<|trivial))
     clear b1 b2 b3 hW
     rintro W13 hW z14 hL
     obtain⟨⟨b1,yb1,k1,f1⟩,⟨b2,yb2,k2,f2⟩,b3,-⟩:=id hL
     clear k1 f1 k2 f2
     refine Bg 12 109 hW hL ?_
     iterate 3 refine dE (fun W' hC=>aI e8.out (aI e9 (hC.2.2.2.1.cells hq))) ?_
     iterate 8 refine gE (fun W' hC=>aI e8.out (aI e9 (hC.2.2.2.1.cells hq))) ?_
     refine pA ?_
     clear hW hL b1 b2 b3
     rintro W15 hW z16 hL
     simp only[ndR]
     intros
     simp only[ndS]
     obtain⟨⟨b1,yb1,k1,f1⟩,⟨b2,yb2,k2,f2⟩,b3,-⟩:=hL
     go_wp2_with fail
     refine(Xa _ _).mono ?_
     rintro e w' ⟨rfl,hh⟩
     rcases hh with⟨hb,rfl⟩|⟨hb,rfl⟩
     rotate_left
     ·exact L3 w _ _ _ _ _ rfl rfl hW b1 _ (J7 (okAt_3 hr hi0 hq hb) hlt)
     have HB:=Hd (Us hok hr g1 g2 (.inr ⟨q,hq,hb⟩))
     clear hb hq qf qs qc e8 e9 e10 hi1 hprev b3 g1 g2 hr hok
     go_wp2
     rw[show (i:Int)+1=((i+1:Nat):Int) by omega]
     exact⟨⟨hW,b1,i+1,C3 l i+r.c,Ac rfl,by omega,HB.out,e5.out.symm,by omega,by omega⟩,by simp[Ag];omega⟩
   ·have hd:decide ((i:Int)<(l.length:Int))=false:=by simp;omega
    have e:i=l.length:=by omega
    subst e
    have k1:=b1.cell
    have f1:=b1.frozen
    go_wp2
    refine rises_ret w _ _ _ rfl rfl (Aa) (decide (C3 l l.length<=256)) (Bo) _ ?_
    unfold Et
    rw[hok,hb]
    rfl
 ·exact L3 w _ _ _ _ _ rfl rfl hW b1 _ (by unfold Et;rw[hb,Bool.false_and,Bool.false_and])
end Go.Proofs.YtdeghcgakkhbmaaGreat
namespace Go.Proofs.YtdeghcgakkhbmaaGreat
open Go.RowKit
structure Gz (r:Ah):Prop where
 f0:0<=r.f
 f1:r.f<=281474976710656
 s0:0<=r.s
 s1:r.s<=281474976710656
 c0:1<=r.c
 c1:r.c<=256
 one:r.c=1↔r.s=0
 last:Dq r<=281474976710656
def cnt:List Ah->Int
 | []=>0
 |r::l=>r.c+cnt l
def Ce (r:Ah):List Int:=(List.range r.c.toNat).map fun(k:Nat)=>r.f+r.s*(k:Int)
def Ae:List Ah->List Int
 | []=> []
 |r::l=>Ce r++Ae l
def Next (q r:Ah):Prop:=Dq q<r.f/\r.f-Dq q≠q.s
def Kx:List Ah->Prop
 | []=>True
 |r::l=>(∀q,l.head? =some q->Next r q/\1<r.c)/\Kx l
structure Cf (l:List Ah):Prop where
 some':0<l.length
 few:l.length<=256
 each:∀r,r∈l->Gz r
 count:cnt l<=256
 chain:Kx l
theorem Kg (a b:List Ah):cnt (a++b)=cnt a+cnt b:=by
 induction a with
 |nil=>simp[cnt]
 |cons r a ih=>simp[cnt,ih];omega
theorem Oh (l:List Ah):∀n,n<=l.length->C3 l n=cnt (l.take n)
 |0,_=>by simp[C3,cnt]
 |n+1,h=>by
  have hn:n<l.length:=by omega
  simp only[C3]
  rw[Oh l n (by omega),List.take_succ_eq_append_getElem hn,Kg,List.getElem?_eq_getElem hn]
  simp[cnt]
theorem P5 (l:List Ah):C3 l l.length=cnt l:=by rw[Oh l _ (Nat.le_refl _),List.take_length]
theorem okTo_at {l:List Ah}:∀ {n i:Nat},M4 l n=true->i<n->M5 l i=true
 |0,_,_,h=>by omega
 |n+1,i,hk,h=>by
  simp only[M4,Bool.and_eq_true] at hk
  rcases Nat.lt_or_ge i n with k|k
  ·exact okTo_at hk.1 k
  ·have:i=n:=by omega
   subst this;exact hk.2
theorem okTo_of {l:List Ah}:∀ {n:Nat},(∀i,i<n->M5 l i=true)->M4 l n=true
 |0,_=>rfl
 |n+1,h=>by simp only[M4,Bool.and_eq_true];exact⟨okTo_of fun i hi=>h i (by omega),h n (by omega)⟩
theorem run12 {n i:Nat} {r:Ah}:(Rb r=true/\run2 n i r=true)↔Gz r/\(1<r.c∨(i:Int)=(n:Int)-1):=by
 unfold Rb run2
 constructor
 ·intro ⟨h1,h2⟩
  simp at h1 h2
  exact⟨⟨by omega,by omega,by omega,by omega,by omega,by omega,by
   have:=h2.1.1
   constructor<;>intro k
   ·simpa [k] using this
   ·simpa [k] using this,by omega⟩,h2.1.2⟩
 ·intro ⟨h,k⟩
  have a:=h.f0;have b:=h.f1;have c:=h.s0;have d:=h.s1;have e:=h.c0;have f:=h.c1;have g:=h.last
  simp
  exact⟨by omega,⟨by by_cases j:r.c=1<;>simp[j,h.one.1,<-h.one],k⟩,by omega⟩
theorem Md :∀(l:List Ah),Kx l↔∀(i:Nat) (q r:Ah),l[i]? =some q->l[i+1]? =some r->Next q r/\1<q.c
 | []=>by simp[Kx]
 |a::l=>by
  simp only[Kx]
  constructor
  ·rintro⟨h,k⟩ i q r hq hr
   cases i with
   |zero=>
    simp at hq
    subst hq
    exact h r (by simpa [List.head?_eq_getElem?] using hr)
   |succ i=>exact(Md l).1 k i q r (by simpa using hq) (by simpa using hr)
  ·intro h
   exact⟨fun q hq=>h 0 a q (by simp) (by simpa [List.head?_eq_getElem?] using hq),(Md l).2 fun i q r hq hr=>h (i+1) q r (by simpa using hq) (by simpa using hr)⟩
theorem Ei (l:List Ah):Et l=true↔Cf l:=by
 unfold Et
 simp only[Bool.and_eq_true,decide_eq_true_eq,P5]
 constructor
 ·rintro⟨⟨⟨h1,h2⟩,h3⟩,h4⟩
  have at':∀(i:Nat) (r:Ah),l[i]? =some r->(Gz r/\(1<r.c∨(i:Int)=(l.length:Int)-1))/\(i=0∨∀q,l[i-1]? =some q->run3 q r=true):=by
   intro i r hr
   have hi:i<l.length:=by
    rw[List.getElem?_eq_some_iff] at hr;exact hr.1
   have:=okTo_at h3 hi
   unfold M5 at this
   rw[hr] at this
   simp only[Bool.and_eq_true,Bool.or_eq_true,decide_eq_true_eq] at this
   refine⟨run12.1 ⟨this.1.1,this.1.2⟩,this.2.imp id fun h q hq=> ?_⟩
   rw[hq] at h;exact h
  refine⟨h1,by omega,fun r hr=> ?_,h4,(Md l).2 fun i q r hq hr=> ?_⟩
  ·obtain⟨i,hi⟩:=List.getElem?_of_mem hr
   exact(at' i r hi).1.1
  ·have a:=(at' (i+1) r hr).2
   have b:=(at' i q hq).1.2
   have hi:i+1<l.length:=by
    rw[List.getElem?_eq_some_iff] at hr;exact hr.1
   rcases a with a|a
   ·omega
   ·have:=a q (by simpa using hq)
    unfold run3 at this
    simp at this
    exact⟨⟨by omega,this.2⟩,by omega⟩
 ·intro h
  refine⟨⟨⟨h.some',by have:=h.few;omega⟩,okTo_of fun i hi=> ?_⟩,h.count⟩
  obtain⟨r,hr⟩:∃r,l[i]? =some r:=⟨l[i],List.getElem?_eq_getElem hi⟩
  have hm:r∈l:=List.mem_of_getElem? hr
  have hc:=(Md l).1 h.chain
  unfold M5
  rw[hr]
  simp only[Bool.and_eq_true,Bool.or_eq_true,decide_eq_true_eq]
  refine⟨run12.2 ⟨h.each r hm,?_⟩,?_⟩
  ·rcases Nat.lt_or_ge (i+1) l.length with k|k
   ·exact .inl (hc i r _ hr (List.getElem?_eq_getElem k)).2
   ·right;omega
  ·cases i with
   |zero=>exact .inl rfl
   |succ i=>
    right
    have hi':i<l.length:=by omega
    have:=(hc i _ r (List.getElem?_eq_getElem hi') hr).1
    have e:l[i+1-1]? =some l[i]:=by simp[hi']
    rw[e]
    unfold run3
    simp
    exact⟨this.1,this.2⟩
theorem R3 {r:Ah} (h:Gz r):r.f<=Dq r:=by
 have m0:0<=r.s*(r.c-1):=Int.mul_nonneg h.s0 (by have:=h.c0;omega)
 unfold Dq;omega
theorem L0 {r:Ah} (h:Gz r) {k:Int} (h1:k<=r.c-1):r.f+r.s*k<=Dq r:=by
 have:=Int.mul_le_mul_of_nonneg_left h1 h.s0
 unfold Dq;omega
theorem Ui {r:Ah} (h:Gz r) {k:Int} (h0:0<=k):r.f<=r.f+r.s*k:=by
 have:=Int.mul_nonneg h.s0 h0
 omega
theorem run_at_lt {r:Ah} (h:Gz r) {j k:Int} (h0:0<=j) (h1:j<k) (h2:k<r.c):r.f+r.s*j<r.f+r.s*k:=by
 have hs:0<r.s:=by
  have:=h.s0
  rcases Int.lt_or_eq_of_le this with k|k
  ·exact k
  ·have:=h.one.2 k.symm;omega
 have:=Int.mul_lt_mul_of_pos_left h1 hs
 omega
theorem Dt (r:Ah):(Ce r).length=r.c.toNat:=by simp[Ce]
theorem C2 :∀(l:List Ah),(∀r,r∈l->0<=r.c)->((Ae l).length:Int)=cnt l
 | [],_=>rfl
 |r::l,h=>by
  simp only[Ae,List.length_append,cnt,Dt]
  have:=C2 l fun r hr=>h r (by simp[hr])
  have:=h r (by simp)
  omega
theorem Lv (r:Ah) (k:Nat) (h:(k:Int)<r.c):(Ce r)[k]? =some (r.f+r.s*(k:Int)):=by
 unfold Ce
 rw[List.getElem?_map,List.getElem?_range (by omega)]
 rfl
theorem Q5 (r:Ah) (l:List Ah) (k:Nat) (h:(k:Int)<r.c):(Ae (r::l))[k]? =some (r.f+r.s*(k:Int)):=by
 simp only[Ae]
 rw[List.getElem?_append_left (by rw[Dt];omega),Lv r k h]
theorem Vn (r:Ah) (l:List Ah) (k:Nat) (h:r.c<=(k:Int)):(Ae (r::l))[k]? =(Ae l)[k-r.c.toNat]? :=by
 simp only[Ae]
 rw[List.getElem?_append_right (by rw[Dt];omega),Dt]
def atL:List Ah->Int->Option Int
 | [],_=>none
 |r::l,i=>if i<r.c then some (r.f+r.s*i) else atL l (i-r.c)
theorem Ng :∀(l:List Ah) (i:Nat),(∀r,r∈l->0<=r.c)->atL l (i:Int)=(Ae l)[i]?
 | [],i,_=>by simp[atL,Ae]
 |r::l,i,h=>by
  have hr:=h r (by simp)
  simp only[atL]
  by_cases k:(i:Int)<r.c
  ·rw[if_pos k,Q5 r l i k]
  ·rw[if_neg k,Vn r l i (by omega),<-Ng l (i-r.c.toNat) fun r hr=>h r (by simp[hr])]
   congr 1;omega
def Lt:List Ah->Int->Int
 | [],_=>0
 |r::l,t=>if t<=r.f then 0 else if Dq r<t then r.c+Lt l t else (t-r.f-1)/r.s+1
theorem Kx.tail {r:Ah} {l:List Ah} (h:Kx (r::l)):Kx l:=h.2
theorem Pr :∀(l:List Ah) (x:Int),(∀r,r∈l->Gz r)->Kx l->(∀r,l.head? =some r->x<r.f)->∀t,t∈Ae l->x<t
 | [],_,_,_,_,t,ht=>by simp[Ae] at ht
 |r::l,x,h,hc,hx,t,ht=>by
  have hr:=h r (by simp)
  have h0:=hx r (by simp)
  simp only[Ae,List.mem_append] at ht
  rcases ht with ht|ht
  ·simp only[Ce,List.mem_map,List.mem_range] at ht
   obtain⟨k,hk,rfl⟩:=ht
   have:=Ui hr (show (0:Int)<=k by omega)
   omega
  ·have:=Pr l (Dq r) (fun r hr=>h r (by simp[hr])) hc.2 (fun q hq=>((hc.1 q hq).1).1) t ht
   have:=R3 hr
   omega
theorem Ho :∀(l:List Ah),(∀r,r∈l->Gz r)->Kx l->(Ae l).Pairwise (·<·)
 | [],_,_=>by simp[Ae]
 |r::l,h,hc=>by
  have hr:=h r (by simp)
  simp only[Ae]
  rw[List.pairwise_append]
  refine⟨?_,Ho l (fun r hr=>h r (by simp[hr])) hc.2,fun a ha b hb=> ?_⟩
  ·unfold Ce
   rw[List.pairwise_map]
   refine List.Pairwise.imp_of_mem ?_ (List.pairwise_lt_range)
   intro a b ha hb hab
   simp at ha hb
   exact run_at_lt hr (by omega) (by omega) (by omega)
  ·simp only[Ce,List.mem_map,List.mem_range] at ha
   obtain⟨k,hk,rfl⟩:=ha
   have:=Pr l (Dq r) (fun r hr=>h r (by simp[hr])) hc.2 (fun q hq=>((hc.1 q hq).1).1) b hb
   have:=L0 hr (show (k:Int)<=r.c-1 by omega)
   omega
theorem Xv (l:List Ah) (h:Cf l):∀t,t∈Ae l->0<=t/\t<=281474976710656:=by
 intro t ht
 have:∀(l:List Ah),(∀r,r∈l->Gz r)->t∈Ae l->0<=t/\t<=281474976710656:=by
  intro l
  induction l with
  |nil=>intro _ h;simp[Ae] at h
  |cons r l ih=>
   intro h ht
   simp only[Ae,List.mem_append] at ht
   rcases ht with ht|ht
   ·simp only[Ce,List.mem_map,List.mem_range] at ht
    obtain⟨k,hk,rfl⟩:=ht
    have hr:=h r (by simp)
    have:=Ui hr (show (0:Int)<=k by omega)
    have:=L0 hr (show (k:Int)<=r.c-1 by omega)
    have:=hr.f0;have:=hr.last
    omega
   ·exact ih (fun r hr=>h r (by simp[hr])) ht
 exact this l h.each ht
theorem c_rcheck (p:Option Addr) (cap:Nat) (l:List Ah) (w:World) (hlen:l.length<=9223372036854775807) (h:Al w p l):
  Cb 173 #[.slice p l.length cap] w (.int .i64 (if Et l then 0 else 170)):=by
 have c1:=fun W (hW:Below w.heap.size w W)=>Ql p cap l W hlen (h.below hW)
 by_cases hb:Et l=true
 ·rw[if_pos hb]
  rw[hb] at c1
  have H_c1:=Hd c1
  clear c1
  go_enter Tryz.func173,Tryz.ntmps173
  go_wp2_with fail
  refine(H_c1.out _ (Aa)).mono ?_
  rintro e w1 ⟨rfl,hb1⟩
  have z2:=hb1.size
  try simp at z2
  refine Aj w w1 (Bz) ?_
  rintro hW z3 ⟨-⟩
  clear hb1
  go_wp2
  refine bodyPost_ret (by simp[results,Tryz.results173,go_sem]) rfl ⟨rfl,by exact Aa⟩
 ·rw[if_neg hb]
  rw[eq_false_of_ne_true hb] at c1
  have H_c1:=Hd c1
  clear c1
  go_enter Tryz.func173,Tryz.ntmps173
  go_wp2_with fail
  refine(H_c1.out _ (Aa)).mono ?_
  rintro e w1 ⟨rfl,hb1⟩
  have z2:=hb1.size
  try simp at z2
  refine Aj w w1 (Bz) ?_
  rintro hW z3 ⟨-⟩
  clear hb1
  go_wp2
  refine bodyPost_ret (by simp[results,Tryz.results173,go_sem]) rfl ⟨rfl,by exact Aa⟩
theorem c_rcount (p:Option Addr) (cap:Nat) (l:List Ah) (w:World) (hlen:l.length<=9223372036854775807) (h:Al w p l):
  Cb 155 #[.slice p l.length cap] w (.int .i64 (if Et l then cnt l else 0)):=by
 have c1:=fun W (hW:Below w.heap.size w W)=>Ql p cap l W hlen (h.below hW)
 by_cases hb:Et l=true
 ·rw[if_pos hb]
  rw[hb] at c1
  have hl:=(Ei l).1 hb
  have c2:=fun W (hW:Below w.heap.size w W)=>many_w p l.length cap l W rfl hl.few (h.below hW) (fun i r hr=>by have hh:=hl.each r (List.mem_of_getElem? hr);have:=hh.c0;have:=hh.c1;omega)
  rw[P5] at c2
  have H_c1:=Hd c1
  clear c1
  have H_c2:=Hd c2
  clear c2
  go_enter Tryz.func155,Tryz.ntmps155
  go_wp2_with fail
  refine(H_c1.out _ (Aa)).mono ?_
  rintro e w1 ⟨rfl,hb1⟩
  have z2:=hb1.size
  try simp at z2
  refine Aj w w1 (Bz) ?_
  rintro hW z3 ⟨-⟩
  clear hb1
  go_wp2_with fail
  refine(H_c2.out _ (Aa)).mono ?_
  rintro e w4 ⟨rfl,hb4⟩
  have z5:=hb4.size
  try simp at z5
  refine Aj w w4 (Bz) ?_
  clear hW
  rintro hW z6 ⟨-⟩
  clear hb4
  go_wp2
  refine bodyPost_ret (by simp[results,Tryz.results155,go_sem]) rfl ⟨rfl,by exact Aa⟩
 ·rw[if_neg hb]
  rw[eq_false_of_ne_true hb] at c1
  have H_c1:=Hd c1
  clear c1
  go_enter Tryz.func155,Tryz.ntmps155
  go_wp2_with fail
  refine(H_c1.out _ (Aa)).mono ?_
  rintro e w1 ⟨rfl,hb1⟩
  have z2:=hb1.size
  try simp at z2
  refine Aj w w1 (Bz) ?_
  rintro hW z3 ⟨-⟩
  clear hb1
  go_wp2
  refine bodyPost_ret (by simp[results,Tryz.results155,go_sem]) rfl ⟨rfl,by exact Aa⟩
theorem Se :∀(l:List Ah),(∀r,r∈l->Gz r)->0<=cnt l
 | [],_=>by simp[cnt]
 |r::l,h=>by
  have:=Se l fun r hr=>h r (by simp[hr])
  have:=(h r (by simp)).c0
  simp only[cnt];omega
def atV (l:List Ah) (i:Int):Int:=(atL l i).getD 0
def atE (l:List Ah) (i:Int):Int:=if (atL l i).isSome then 0 else 4
theorem J1 {l:List Ah} {i v:Int} (h:atL l i=some v):atV l i=v:=by simp[atV,h]
theorem Z3 {l:List Ah} {i v:Int} (h:atL l i=some v):atE l i=0:=by simp[atE,h]
theorem atV_none {l:List Ah} {i:Int} (h:atL l i=none):atV l i=0:=by simp[atV,h]
theorem atE_none {l:List Ah} {i:Int} (h:atL l i=none):atE l i=4:=by simp[atE,h]
theorem atL_drop {l:List Ah} {k:Nat} {r:Ah} (hr:l[k]? =some r) (i:Int):atL (l.drop k) i=if i<r.c then some (r.f+r.s*i) else atL (l.drop (k+1)) (i-r.c):=by
 rw[List.getElem?_eq_some_iff] at hr
 obtain⟨hi,rfl⟩:=hr
 rw[List.drop_eq_getElem_cons hi,atL]
def atRel (p:Option Addr) (cap:Nat) (l:List Ah) (i:Int) (w:World) (a':Act) (W:World):Prop:=Below w.heap.size w W/\∃(k:Nat) (j:Int),(∃u:Nat->Value,a'= {tmps:= #[(.slice p l.length cap),j,u 2,u 3,u 4,u 5,u 6,u 7,u 8,u 9,u 10,u 11,u 12,(.slice p l.length cap),.int .i64 (l.length:Int),.int .i64 (k:Int),u 16,u 17,u 18,u 19,u 20,u 21,u 22,u 23,u 24,u 25,u 26,u 27,u 28,u 29,u 30,u 31,u 32,u 33,u 34],defers:= []})/\k<=l.length/\atL (l.drop k) j=atL l i/\0<=j/\j<=i
theorem at_w (p:Option Addr) (cap:Nat) (l:List Ah) (i:Int) (w:World) (hl:Cf l) (h:Al w p l) (hi0:0<=i) (hi1:i<=9223372036854775807):
  Cb 154 #[.slice p l.length cap,i] w (.tuple #[.int .i64 (atV l i),.int .i64 (atE l i)]):=by
 have hlen:=hl.few
 have c1:=fun W (hW:Below w.heap.size w W)=>Ql p cap l W (by omega) (h.below hW)
 rw[(Ei l).2 hl] at c1
 have H_c1:=Hd c1
 clear c1
 go_enter Tryz.func154,Tryz.ntmps154
 go_wp2_with fail
 refine(H_c1.out _ (Aa)).mono ?_
 rintro e w1 ⟨rfl,hb1⟩
 have z2:=hb1.size
 try simp at z2
 refine Aj w w1 (Bz) ?_
 rintro hW z3 ⟨-⟩
 clear hb1
 go_wp2
 refine wp_loop (atRel p cap l i w) (fun a' _=>l.length-(Ag (a'.tmps.getD 15 undef)).toNat) ?_ ?_
 ·unfold atRel
  exact⟨hW,0,i,Ac rfl,by omega,by simp,by omega,by omega⟩
 ·clear hW
  rintro a' W ⟨hW,k,j,⟨u,rfl⟩,hk,hn,hj0,hj1⟩
  have hz:=hW.size
  rcases Nat.lt_or_ge k l.length with hlt|hge
  ·obtain⟨r,hri⟩:∃r,l[k]? =some r:=⟨l[k]'(by omega),List.getElem?_eq_getElem (by omega)⟩
   have hr:=hl.each r (List.mem_of_getElem? hri)
   obtain⟨b,o,rfl,k0,k1,k2⟩:=(h.below hW).at' k r hri
   have hd2:=atL_drop hri j
   have r1:=hr.f0;have r2:=hr.f1;have r3:=hr.s0;have r4:=hr.s1;have r5:=hr.c0;have r6:=hr.c1;have r7:=R3 hr;have r8:=hr.last
   by_cases h1:j<r.c
   ·rw[if_pos h1] at hd2
    rw[hd2] at hn
    have m0:0<=r.s*j:=Int.mul_nonneg r3 hj0
    have m1:r.f+r.s*j<=Dq r:=L0 hr (by omega)
    replace hn:=Hd hn
    clear hd2
    replace hri:=Hd hri
    go_wp2
    refine bodyPost_ret (v:= .tuple #[.int .i64 (r.f+r.s*j),.int .i64 (0)]) (by simp[results,Tryz.results154,go_sem]) rfl ⟨by rw[J1 hn.out.symm,Z3 hn.out.symm],Aa⟩
   ·rw[if_neg h1] at hd2
    rw[hd2] at hn
    replace hn:=Hd hn
    clear hd2
    replace hri:=Hd hri
    go_wp2
    rw[show (k:Int)+1=((k+1:Nat):Int) by omega]
    refine⟨?_,by simp[Ag];omega⟩
    unfold atRel
    exact⟨Aa,k+1,j-r.c,Ac rfl,by omega,hn.out,by omega,by omega⟩
  ·have e:l.drop k= []:=List.drop_eq_nil_of_le hge
   rw[e] at hn
   simp only[atL] at hn
   replace hn:=Hd hn
   clear e
   go_wp2
   refine bodyPost_ret (v:= .tuple #[.int .i64 (0),.int .i64 (4)]) (by simp[results,Tryz.results154,go_sem]) rfl ⟨by rw[atV_none hn.out.symm,atE_none hn.out.symm],Aa⟩
def findL (l:List Ah) (t:Int):Option Int:=if atL l (Lt l t)=some t then some (Lt l t) else none
section
variable (P:Program)
theorem run_copyK (w:World) (dT sT ty elem:TypeId) (k g dLen dCap:Nat) (a:Addr) (sLen sCap:Nat) (cur:Array Value) (t:TypeId) (cs:List Value)
  (hu:P.underlying dT=some (.slice elem)) (hs:(P.info? elem).map (·.size)=some k)
  (hg:w.heap[g]? =some (.cells cur t (0,0))) (hn:cs.length=Nat.min sLen dLen*k)
  (hsrc:∀j v,cs[j]? =some v->w.cell? (a.add j)=some v) (hfit:cs.length=cur.size) (h1:∀v∈cs,v.oneCell'=true):
  (Builtin.copy_ #[dT,sT] ty #[.slice (some ⟨g,0,none⟩) dLen dCap,.slice (some a) sLen sCap]).run P w=
   .ok (goInt (Nat.min sLen dLen)) (w.setRow g cs.toArray):=by
 have hl:=run_loadCells_list (P:=P) w a cs hsrc
 have hst:=run_storeCells_at P g 0 t cs 0 cur w hg (by omega) h1
 have e:cur.toList.take (0+0)++cs++cur.toList.drop (0+0+cs.length)=cs:=by
  have:cur.toList.drop cs.length= []:=List.drop_eq_nil_of_le (by simp[hfit])
  simp[this]
 rw[e] at hst
 cases hq:P.info? elem with
 |none=>simp[hq] at hs
 |some i=>
  have hi:i.size=k:=by simpa [hq] using hs
  have hm:k*min sLen dLen=cs.length:=by rw[hn,Nat.mul_comm]
  have hm':min sLen dLen*k=cs.length:=hn.symm
  simp[Builtin.copy_,run_underlying hu,Builtin.lenOf,Builtin.firstCells,sizeOf,typeInfo,hq,hi,hm,hm',hl,hst]
end
def clipI (l:List Ah) (a:Int):Int:=Lt l a
def clipJ (l:List Ah) (a b:Int):Int:=if 281474976710656<=b then cnt l else if Lt l a<Lt l (b+1) then Lt l (b+1) else Lt l a
def mx (x y:Int):Int:=if y>x then y else x
def mn (x y:Int):Int:=if y<x then y else x
theorem Wf (x y:Int):x<=mx x y/\y<=mx x y/\(mx x y=x∨mx x y=y):=by unfold mx;split<;>omega
theorem Qo (x y:Int):mn x y<=x/\mn x y<=y/\(mn x y=x∨mn x y=y):=by unfold mn;split<;>omega
def pieceOf (r:Ah) (i j:Int):List Ah:=if mx i 0<mn j r.c then [⟨r.f+r.s*mx i 0,r.s,mn j r.c-mx i 0⟩] else []
def Qn:List Ah->Int->Int->List Ah
 | [],_,_=> []
 |r::l,i,j=>pieceOf r i j++Qn l (i-r.c) (j-r.c)
def As:List Ah->List Value
 | []=> []
 |r::l=> .int .i64 r.f:: .int .i64 r.s:: .int .i64 r.c::As l
def K8 (l:List Ah):Array Value:=(As l).toArray
theorem Dg :∀l,(As l).length=l.length*3
 | []=>rfl
 |r::l=>by simp only[As,List.length_cons,Dg l];omega
theorem Qs :∀(l:List Ah) (i:Nat) (r:Ah),l[i]? =some r->(As l)[i*3]? =some (r.f)/\(As l)[i*3+1]? =some (r.s)/\(As l)[i*3+2]? =some (r.c)
 | [],i,r,h=>by simp at h
 |a::l,0,r,h=>by
  simp at h
  subst h
  simp[As]
 |a::l,i+1,r,h=>by
  have:=Qs l i r (by simpa using h)
  rw[show (i+1)*3=i*3+3 by omega]
  simpa [As] using this
theorem R8 :∀(l:List Ah) (v:Value),v∈As l->∃x,v= .int .i64 x
 | [],v,h=>by simp[As] at h
 |r::l,v,h=>by
  simp only[As,List.mem_cons] at h
  rcases h with rfl|rfl|rfl|h
  ·exact⟨_,rfl⟩
  ·exact⟨_,rfl⟩
  ·exact⟨_,rfl⟩
  ·exact R8 l v h
theorem flat_at' (l:List Ah) (j:Nat) (v:Value) (h:(As l)[j]? =some v):∃i r,l[i]? =some r/\((j=i*3/\v=r.f)∨(j=i*3+1/\v=r.s)∨(j=i*3+2/\v=r.c)):=by
 have hlt:j<l.length*3:=by
  rw[List.getElem?_eq_some_iff] at h
  rw[<-Dg];exact h.1
 have hi:j/3<l.length:=by omega
 refine⟨j/3,l[j/3],List.getElem?_eq_getElem hi,?_⟩
 obtain⟨a,b,c⟩:=Qs l (j/3) _ (List.getElem?_eq_getElem hi)
 have hm:j%3=0∨j%3=1∨j%3=2:=by omega
 rcases hm with m|m|m
 ·left
  have e:j=j/3*3:=by omega
  rw[<-e,h] at a
  exact⟨e,by simpa using a⟩
 ·right;left
  have e:j=j/3*3+1:=by omega
  rw[<-e,h] at b
  exact⟨e,by simpa using b⟩
 ·right;right
  have e:j=j/3*3+2:=by omega
  rw[<-e,h] at c
  exact⟨e,by simpa using c⟩
theorem Al.flat {w:World} {a:Addr} {l:List Ah} (h:Al w (some a) l) (j:Nat) (v:Value) (hv:(As l)[j]? =some v):w.cell? (a.add j)=some v:=by
 obtain⟨i,r,hr,h'⟩:=flat_at' l j v hv
 obtain⟨b,o,e,c0,c1,c2⟩:=h.at' i r hr
 simp at e
 subst e
 have hadd:(⟨b,o,none⟩:Addr).add j=⟨b,o+j,none⟩:=by unfold Addr.add;split<;>simp_all
 rw[hadd]
 rcases h' with⟨rfl,rfl⟩|⟨rfl,rfl⟩|⟨rfl,rfl⟩
 ·exact c0
 ·exact c1
 ·exact c2
theorem Tryz.infoRun :(Tryz.prog.info? 141).map (fun i=>(i.zero,i.size,i.bytes))=some (some (.agg #[.int .i64 0,.int .i64 0,.int .i64 0]),3,24):=by kernel_rfl
end Go.Proofs.YtdeghcgakkhbmaaGreat
