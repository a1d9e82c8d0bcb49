/- Parts of the proof that follows. No condition. -/
import Derived.Test.YtidfcoooccblaaaGreatBho8
set_option maxRecDepth 100000
set_option maxHeartbeats 8000000
set_option linter.unusedSimpArgs false
set_option linter.unusedVariables false
namespace Go.Proofs.YtidfcoooccblaaaGreat
open Go.RowKit



structure Rn (a b m n:Int):Prop where
 m0:0<=m
 m1:m<=9223372036854775807
 n0:0<=n
 n1:n<=9223372036854775807
 eq:Nat.gcd m.natAbs n.natAbs=Nat.gcd a.natAbs b.natAbs
theorem Rn.left {a b m n:Int} (h:Rn a b m n) (hn:0<n):Rn a b (m%n) n/\m%n<n:=by
 have l1:=Int.emod_nonneg m (show n≠0 by omega)
 have l2:=Int.emod_lt_of_pos m hn
 have:=h.n1
 refine⟨⟨l1,by omega,h.n0,h.n1,?_⟩,l2⟩
 rw[<-h.eq]
 obtain⟨m,rfl⟩:=Int.eq_ofNat_of_zero_le h.m0
 obtain⟨n,rfl⟩:=Int.eq_ofNat_of_zero_le h.n0
 show Nat.gcd (m%n) n=Nat.gcd m n
 rw[Nat.gcd_comm m n,<-Nat.gcd_rec]
theorem Rn.right {a b m n:Int} (h:Rn a b m n) (hm:0<m):Rn a b m (n%m)/\n%m<m:=by
 have l1:=Int.emod_nonneg n (show m≠0 by omega)
 have l2:=Int.emod_lt_of_pos n hm
 have:=h.m1
 refine⟨⟨h.m0,h.m1,l1,by omega,?_⟩,l2⟩
 rw[<-h.eq]
 obtain⟨m,rfl⟩:=Int.eq_ofNat_of_zero_le h.m0
 obtain⟨n,rfl⟩:=Int.eq_ofNat_of_zero_le h.n0
 show Nat.gcd m (n%m)=Nat.gcd m n
 rw[Nat.gcd_comm m (n%m),Nat.gcd_rec m n]
theorem Rn.done {a b m n:Int} (h:Rn a b m n) (hz:m=0∨n=0):m+n=(Nat.gcd a.natAbs b.natAbs:Int):=by
 rw[<-h.eq]
 have:=h.m0;have:=h.n0
 rcases hz with rfl|rfl<;>simp<;>omega
def comRel (a b:Int) (w:World) (a':Act) (W:World):Prop:=W=w/\∃(m n:Int),(∃u:Nat->Value,a'= {tmps:= #[m,n,u 2,u 3,.int .i64 0,u 5,u 6,u 7,u 8,u 9,u 10,u 11,u 12,u 13,u 14,u 15,u 16,u 17,u 18,u 19,u 20,u 21,u 22,u 23,u 24,u 25,u 26],defers:= []})/\Rn a b m n
def NI (z:Int):Bg:=fun v w=>Gy w v z
theorem NI.closed (z:Int):A8 [] (NI z):=fun _ _ _ hr h=>Gy.rex h hr rfl
def DV (x y:Int):Bg:=fun v w=>∃v1 v2,v= .tuple #[v1,v2]/\Gy w v1 (x/y)/\Gy w v2 (x%y)
theorem DV.closed (x y:Int):A8 [] (DV x y):=fun _ _ _ hr ⟨v1,v2,e,h1,h2⟩=>⟨v1,v2,e,h1.rex hr rfl,h2.rex hr rfl⟩

structure Ca (W:World) (B:Nat) (e:TypeId) (s:Nat) (v:Value) (n:Nat) (xs:List Value):Prop where
 own:W.ownsRow B e s v n xs
theorem Ca.below {w w':World} {B:Nat} {e:TypeId} {s:Nat} {v:Value} {n:Nat} {xs:List Value} (h:Ca w B e s v n xs) (hb:Below w.heap.size w w'):Ca w' B e s v n xs:=by
 obtain⟨h1,h2⟩:=h.own
 refine⟨h1,?_⟩
 rcases h2 with h2|⟨g,cap,cur,hv,hg,hh,rest⟩
 ·exact .inl h2
 ·exact .inr ⟨g,cap,cur,hv,hg,(hb.block g (Array.getElem?_eq_some_iff.1 hh).1).trans hh,rest⟩
theorem Ca.rex {L:List Nat} {w w':World} {B:Nat} {e:TypeId} {s:Nat} {v:Value} {n:Nat} {xs:List Value} (h:Ca w B e s v n xs) (hr:Rex L w w') (hL:L= []):Ca w' B e s v n xs:=by subst hL;exact h.below hr.below
theorem Ca.drew {w:World} {B:Nat} {e:TypeId} {s:Nat} {v:Value} {n:Nat} {xs:List Value} (h:Ca w B e s v n xs):Ca w.drew B e s v n xs:=⟨h.own⟩
theorem Ca.mono {w:World} {B B':Nat} {e:TypeId} {s:Nat} {v:Value} {n:Nat} {xs:List Value} (h:Ca w B e s v n xs) (hB:B'<=B):Ca w B' e s v n xs:=by
 obtain⟨h1,h2⟩:=h.own
 refine⟨h1,?_⟩
 rcases h2 with h2|⟨g,cap,cur,hv,hg,rest⟩
 ·exact .inl h2
 ·exact .inr ⟨g,cap,cur,hv,Nat.le_trans hB hg,rest⟩
theorem Ca.nil (W:World) (B:Nat) (e:TypeId) (s:Nat):Ca W B e s (.slice none 0 0) 0 []:=⟨World.ownsRow_nil _ _ _ _⟩
theorem Blk.grown {W w1:World} {B g:Nat} {cs:Array Value} {t e:TypeId} {s n:Nat} {v:Value} {xs:List Value} {o:Obj} (h:Blk W g cs t) (hown:W.ownsRow B e s v n xs) (ht:t≠e) (hgr:(W.alloc o).grownBy w1 v.ownBlock):Blk w1 g cs t:=by
 have hlt:=h.lt
 have h':(W.alloc o).heap[g]? =some (.cells cs t (0,0)):=(h.alloc o:Blk (W.alloc o) g cs t)
 refine(hgr.block g (by simp;omega) fun e1=> ?_).trans h'
 rcases hown.2 with⟨rfl,_⟩|⟨g',cap,cur,rfl,_,hb,_⟩
 ·simp[Value.ownBlock] at e1
 ·have:g=g':=by simpa [Value.ownBlock] using e1
  subst this
  unfold Blk at h
  rw[h] at hb
  injection hb with hb
  injection hb with _ h2 _
  exact ht h2
theorem Ca.form {W:World} {B n:Nat} {e:TypeId} {s:Nat} {v:Value} {xs:List Value} (h:Ca W B e s v n xs):∃p cap,v= .slice p n cap/\n<=cap/\cap<=9223372036854775807/\(p=none->n=0/\cap=0)/\(∀a,p=some a->a=⟨a.block,0,none⟩/\B<=a.block):=by
 rcases h.own.2 with⟨rfl,h0⟩|⟨g,cap,cur,rfl,hg,hb,hn,hmx,_⟩
 ·subst h0;exact⟨none,0,rfl,Nat.le_refl _,by omega,fun _=>⟨rfl,rfl⟩,fun a e=>by cases e⟩
 ·exact⟨some ⟨g,0,none⟩,cap,rfl,hn,by unfold maxLen at hmx;omega,(fun e=>by cases e),fun a e=>by cases e;exact⟨rfl,hg⟩⟩
theorem Ca.ints {W:World} {B n:Nat} {e:TypeId} {p:Option Addr} {cap:Nat} {l:List Int} (h:Ca W B e 1 (.slice p n cap) n (l.map (Value.int .i64))):Au W p l:=by
 rcases h.own.2 with⟨h1,h0⟩|⟨g,cap',cur,h1,hg,hb,hn,hmx,_,ht⟩
 ·have:=h.own.1
  simp at this
  subst h0
  have:l= []:=List.length_eq_zero_iff.1 this
  subst this
  exact⟨fun i x hx=>by simp at hx⟩
 ·injection h1 with h2 _ _
  subst h2
  exact Mz hb (by simpa using ht)
theorem Ca.runs {W:World} {B n:Nat} {e:TypeId} {p:Option Addr} {cap:Nat} {l:List Af} (h:Ca W B e 3 (.slice p n cap) n (As l)):Ai W p l:=by
 rcases h.own.2 with⟨h1,h0⟩|⟨g,cap',cur,h1,hg,hb,hn,hmx,_,ht⟩
 ·have:=h.own.1
  rw[Ct] at this
  subst h0
  have:l= []:=List.length_eq_zero_iff.1 (by omega)
  subst this
  exact⟨fun i x hx=>by simp at hx⟩
 ·injection h1 with h2 _ _
  subst h2
  exact Mx hb ht
structure Gz (w:World) (b o:Nat) (l:List Int):Prop where
 ints:Au w (some ⟨b,o,none⟩) l
theorem Gz.below {w w':World} {b o:Nat} {l:List Int} (h:Gz w b o l) (hb:Below w.heap.size w w'):Gz w' b o l:=⟨h.ints.below hb⟩
theorem Gz.rex {L:List Nat} {w w':World} {b o:Nat} {l:List Int} (h:Gz w b o l) (hr:Rex L w w') (hL:L= []):Gz w' b o l:=by subst hL;exact h.below hr.below
theorem Gz.drew {w:World} {b o:Nat} {l:List Int} (h:Gz w b o l):Gz w.drew b o l:=⟨⟨h.ints.at'⟩⟩
theorem Gz.cellAt {w:World} {b o:Nat} {l:List Int} (h:Gz w b o l) {i:Nat} {x:Int} (hx:l[i]? =some x):w.cell? ⟨b,o+i,none⟩=some (x):=by
 obtain⟨b',o',e,h1⟩:=h.ints.at' i x hx
 cases e
 exact h1
instance : DecidableEq Af := fun a b =>
 if h:a.f=b.f/\a.s=b.s/\a.c=b.c then isTrue (by obtain⟨a1,a2,a3⟩:=a;obtain⟨b1,b2,b3⟩:=b;obtain⟨h1,h2,h3⟩:=h;simp at h1 h2 h3;subst h1;subst h2;subst h3;rfl)
 else isFalse (fun e=>h (by subst e;exact⟨rfl,rfl,rfl⟩))
def extn (s p:Int):List Int->Nat
 | []=>0
 |t::l=>if t-p=s then extn s t l+1 else 0
def ofL:List Int->List Af
 | []=> []
 | [t]=> [⟨t,0,1⟩]
 |a::b::l=>⟨a,b-a,((extn (b-a) b l+2:Nat):Int)⟩::ofL (l.drop (extn (b-a) b l))
termination_by l=>l.length
decreasing_by simp;omega
structure Md (t:List Int):Prop where
 up:t.Pairwise (·<·)
 lo:∀x,x∈t->0<=x/\x<=281474976710656
theorem Md.tail {a:Int} {t:List Int} (h:Md (a::t)):Md t:=⟨(List.pairwise_cons.1 h.up).2,fun x hx=>h.lo x (by simp[hx])⟩
theorem Md.drop {t:List Int} (h:Md t) (k:Nat):Md (t.drop k):=⟨h.up.sublist (List.drop_sublist k t),fun x hx=>h.lo x (List.mem_of_mem_drop hx)⟩
def fitR (r:Af):Bool:=decide (1<=r.c)&&decide (r.c<=256)&&decide (0<=r.s)&&decide (r.s<=281474976710656)&&decide (0<=r.f)&&decide (r.f<=281474976710656)
def fitL (l:List Af):Bool:=l.all fitR&&decide (cnt l<=256)
def Y7 (l:List Af):List Int:=if fitL l then Ae l else []
def risingB (t:List Int):Bool:=decide (1<=t.length)&&decide (t.length<=256)&&decide (t.Pairwise (·<·))&&t.all fun x=>decide (0<=x)&&decide (x<=281474976710656)
def rightR (l:List Af):Bool:=risingB (Y7 l)&&decide (ofL (Y7 l)=l)
end Go.Proofs.YtidfcoooccblaaaGreat
