/- Parts of the proof that follows. No condition. -/
import Derived.TacticsIn
import Derived.OrdersIn
import Derived.RangeFuncNested
import Derived.RangeFuncRecord
import Derived.LoopNIn
import Derived.Scope
import Derived.Test.YtdeghcgakkhbmaaGreatProg
import Derived.Test.YtdeghcgakkhbmaaGreatSd15
set_option maxRecDepth 100000
set_option maxHeartbeats 8000000
set_option linter.unusedSimpArgs false
set_option linter.unusedVariables false
namespace Go.Proofs.YtdeghcgakkhbmaaGreat
open Go.RowKit
set_option maxRecDepth 100000
def MB (s s':St):Prop:=s.next<=big->Kq s s'/\s'.next<=big
theorem MB.refl (s:St):MB s s:=fun h=>⟨Kq.refl s,h⟩
theorem MB.trans {a b c:St} (h:MB a b) (k:MB b c):MB a c:=fun hb=>⟨(h hb).1.trans (k (h hb).2).1,(k (h hb).2).2⟩
theorem M6 {s s':St} {o:AO} {k:Nat} (h:s.new o=some (k,s')):MB s s':=fun _=>by
 obtain⟨h1,rfl,rfl⟩:=D4 h
 have hk:s.next+2<=2^24:=by unfold big at h1;omega
 have hT:∀i,(s.T.set 24 s.next (some o)).get i=if i=s.next then some o else s.T.get i:=fun i=>Tr.get_set 24 s.T s.next (some o) i hk
 refine⟨⟨Nat.le_succ _,rfl,rfl,rfl,fun i hi _=> ?_,fun i hi hd=> ?_,fun hu i hi=> ?_,rfl⟩,h1⟩
 ·show (s.T.set 24 s.next (some o)).get i=_
  rw[hT,if_neg (by omega)]
 ·show (s.T.set 24 s.next (some o)).get i=_
  rw[hT,if_neg (by omega)];exact hd
 ·have hi:s.next+1<=i:=hi
  show (s.T.set 24 s.next (some o)).get i=none
  rw[hT,if_neg (by omega)];exact hu i (by omega)
theorem Hs {s s':St} {k:Nat} {o1:AO} {o:Option AO} (hv:s.get k=some o1) (h:s.put k o=some s'):MB s s':=fun hb9=>by
 obtain⟨h1,h2,rfl⟩:=Jq h
 have hk:k+2<=2^24:=by unfold big at hb9;omega
 have hT:∀i,(s.T.set 24 k o).get i=if i=k then o else s.T.get i:=fun i=>Tr.get_set 24 s.T k o i hk
 have hnh:A4 s.hid k=false:=by
  cases e:A4 s.hid k with
  |false=>rfl
  |true=>rw[Jm,e] at hv;cases hv
 refine⟨⟨Nat.le_refl _,rfl,rfl,rfl,fun i hi hw=> ?_,fun i hi hd=> ?_,fun hu i hi=> ?_,rfl⟩,hb9⟩
 ·show (s.T.set 24 k o).get i=_
  rw[hT,if_neg ?_]
  rintro rfl
  rcases hw with hw|hw
  ·exact hw h1
  ·rw[hnh] at hw;cases hw
 ·show (s.T.set 24 k o).get i=_
  rw[hT]
  split
  ·rename_i e
   subst e
   rw[Jm,hnh,if_neg (by simp)] at hv
   rw[hd] at hv;cases hv
  ·exact hd
 ·have hi':s.next<=i:=hi
  show (s.T.set 24 k o).get i=none
  rw[hT,if_neg (by omega)];exact hu i hi'
theorem wr_mb {s s':St} {k off:Nat} {vs:List Value} (h:wr s k off vs=some s'):MB s s':=by
 unfold wr at h
 split at h
 ·rename_i cs t op hg
  cases hb:(Nat.ble (Nat.add off vs.length) cs.length&&Fa vs) with
  |false=>rw[hb] at h;cases h
  |true=>rw[hb] at h;exact Hs hg h
 ·cases h
theorem Bh {α:Type} {b:Bool} {x:Option α} {y:α} (h:(bif b then x else none)=some y):b=true/\x=some y:=by
 cases b with
 |true=>exact⟨rfl,h⟩
 |false=>cases h
theorem Wg {α:Type} {s:St} {o:AO} {f:Nat×St->α} {y:α} (h:(s.new o).map f=some y):∃k s1,s.new o=some (k,s1)/\y=f (k,s1):=by
 simp only[Option.map_eq_some_iff] at h
 obtain⟨⟨k,s1⟩,h1,h2⟩:=h
 exact⟨k,s1,h1,h2.symm⟩
section
variable {P:Program} {s s':St} {v:Value}
theorem newC_mb {cs:List Value} {t:TypeId} (h:newC s cs t=some (v,s')):MB s s':=by
 obtain⟨_,h⟩:=Bh h
 obtain⟨k,s1,h1,e⟩:=Wg h
 have:s'=s1:=congrArg Prod.snd e
 rw[this];exact M6 h1
theorem D1 {α:Type} {b:Bool} {x y:Option α} {z:α} (h:(bif b then x else y)=some z):(b=true/\x=some z)∨(b=false/\y=some z):=by
 cases b with
 |true=>exact .inl ⟨rfl,h⟩
 |false=>exact .inr ⟨rfl,h⟩
theorem Ph {q:Option St} {f:St->Value×St} (hf:∀t,(f t).2=t) (h:q.map f=some (v,s')):q=some s':=by
 simp only[Option.map_eq_some_iff] at h
 obtain⟨t,h1,h2⟩:=h
 have:=hf t
 rw[h2] at this
 have this:s'=t:=this
 rw[h1,this]
theorem Hb {o:AO} {f:Nat×St->Value×St} (hf:∀t,(f t).2=t.2) (h:(s.new o).map f=some (v,s')):MB s s':=by
 obtain⟨k,s1,h1,e⟩:=Wg h
 have:s'=s1:=by have:=hf (k,s1);rw[<-e] at this;exact this
 rw[this];exact M6 h1
theorem appB_mb {t:TypeId} {x y:Value} (hb:appB P s t x y=some (v,s')):MB s s':=by
 unfold appB at hb
 split at hb
 ·cases hb
 split at hb
 case h_2=>cases hb
 obtain⟨_,hb⟩:=Bh hb
 split at hb
 ·split at hb
  ·cases hb
  rcases D1 hb with⟨_,hb⟩|⟨_,hb⟩
  ·split at hb
   ·split at hb
    ·obtain⟨_,hb⟩:=Bh hb
     exact wr_mb (Ph (fun _=>rfl) hb)
    ·cases hb
   ·cases hb
  ·obtain⟨_,hb⟩:=Bh hb
   split at hb
   ·obtain⟨_,hb⟩:=Bh hb
    obtain⟨_,hb⟩:=Bh hb
    exact Hb (fun _=>rfl) hb
   ·split at hb
    ·cases hb
    split at hb
    ·exact Hb (fun _=>rfl) hb
    ·split at hb
     ·obtain⟨_,hb⟩:=Bh hb
      split at hb
      ·cases hb
      rename_i s1 hd
      exact(Hs (by assumption) hd).trans (Hb (fun _=>rfl) hb)
     ·cases hb
 ·obtain⟨_,hb⟩:=Bh hb
  injection hb with hb;injection hb with _ hb;subst hb;exact MB.refl _
 ·cases hb
theorem Fx {α:Type} {q:Option α} {f:α->Value×St} (hf:∀a,(f a).2=s) (h:q.map f=some (v,s')):MB s s':=by
 simp only[Option.map_eq_some_iff] at h
 obtain⟨a,_,h⟩:=h
 have:=hf a
 rw[h] at this
 rw[show s'=s from this];exact MB.refl _
theorem Qj {x:Value} (h:some (x,s)=some (v,s')):MB s s':=by injection h with h;injection h with _ h;subst h;exact MB.refl _
theorem appZ_mb {t u:TypeId} {x:Value} {n:Nat} (hb:appZ P s t u x n=some (v,s')):MB s s':=by
 unfold appZ at hb
 split at hb
 case h_2=>cases hb
 split at hb
 ·cases hb
 split at hb
 case h_2=>cases hb
 obtain⟨_,hb⟩:=Bh hb
 split at hb
 ·obtain⟨_,hb⟩:=Bh hb
  exact Hb (fun _=>rfl) hb
 ·obtain⟨_,hb⟩:=Bh hb
  split at hb
  ·cases hb
  ·exact Hb (fun _=>rfl) hb
 ·cases hb
theorem bi_mb {b:Builtin} {tys:List TypeId} {type:TypeId} {args:List Value} (hb:bi P b tys type args s=some (v,s')):MB s s':=by
 unfold bi at hb
 split at hb
 ·exact Fx (fun _=>rfl) hb
 ·exact Fx (fun _=>rfl) hb
 ·exact Fx (fun _=>rfl) hb
 ·exact Fx (fun _=>rfl) hb
 ·rcases D1 hb with⟨_,hb⟩|⟨_,hb⟩
  ·exact appB_mb hb
  ·split at hb
   ·exact appZ_mb hb
   ·cases hb
 ·obtain⟨_,hb⟩:=Bh hb
  split at hb
  ·cases hb
  rcases D1 hb with⟨_,hb⟩|⟨_,hb⟩
  ·exact Qj hb
  ·split at hb
   ·split at hb
    ·cases hb
    ·exact wr_mb (Ph (fun _=>rfl) hb)
   ·cases hb
 ·rcases D1 hb with⟨_,hb⟩|⟨_,hb⟩
  ·exact Fx (fun _=>rfl) hb
  ·split at hb
   ·exact wr_mb (Ph (fun _=>rfl) hb)
   ·cases hb
 ·exact Fx (fun _=>rfl) (Bh hb).2
 ·exact Fx (fun _=>rfl) (Bh hb).2
 ·cases hb
structure RM (R:Rec):Prop where
 code:∀c fr s e fr' s',R.code c fr s=some (e,fr',s')->MB s s'/\fr'.round=fr.round/\fr'.m=fr.m
 call:∀f args s v s',R.call f args s=some (v,s')->MB s s'
 yield:∀l args s v s',R.yield l args s=some (v,s')->MB s s'
 back:∀b c fr s e fr' s',R.back b c fr s=some (e,fr',s')->MB s s'/\fr'.round=fr.round/\fr'.m=fr.m
theorem Si {R:Rec} (hR:RM R) {f:Value} {args:List Value} (h:callV R f args s=some (v,s')):MB s s':=by
 unfold callV at h
 split at h
 ·exact hR.call _ _ _ _ _ h
 ·exact hR.yield _ _ _ _ _ h
 ·cases h
theorem Lk {R:Rec} (hR:RM R) {ρ:Operand->Value} {o:Oper} (h:execH P R ρ o s=some (v,s')):MB s s':=by
 unfold execH at h
 split at h
 ·split at h
  ·exact newC_mb h
  ·cases h
 ·exact newC_mb h
 ·split at h
  ·cases h
  split at h
  ·rcases D1 h with⟨_,h⟩|⟨_,h⟩
   ·cases h
   split at h
   ·cases h
   ·exact Hb (fun _=>rfl) (Bh h).2
  ·cases h
 ·split at h
  ·exact Fx (fun _=>rfl) h
  ·cases h
 ·split at h
  ·exact wr_mb (Ph (fun _=>rfl) (Bh h).2)
  ·cases h
 ·split at h
  ·cases h
  split at h
  ·exact Hb (fun _=>rfl) (Bh h).2
  ·cases h
 ·exact Hb (fun _=>rfl) h
 ·split at h
  ·split at h
   ·rename_i hg
    split at h
    ·exact Hs hg (Ph (fun _=>rfl) h)
    ·cases h
   ·cases h
  ·cases h
 ·split at h
  ·split at h
   ·split at h
    ·exact Qj h
    ·exact Qj h
    ·cases h
   ·cases h
  ·cases h
 ·split at h
  ·exact Hb (fun _=>rfl) h
  ·cases h
 ·split at h
  ·split at h
   ·rename_i hg
    rcases D1 h with⟨_,h⟩|⟨_,h⟩
    ·exact Hs hg (Ph (fun _=>rfl) h)
    ·exact Qj h
   ·cases h
  ·cases h
 ·split at h
  ·exact bi_mb h
  ·exact Si hR h
  ·cases h
 ·cases h
theorem exec_mb {R:Rec} (hR:RM R) {ρ:Operand->Value} {o:Oper} (h:exec P R ρ o s=some (v,s')):MB s s':=by
 unfold exec at h
 rcases D1 h with⟨_,h⟩|⟨_,h⟩
 ·exact Fx (fun _=>rfl) h
 ·exact Lk hR h
theorem M3 {fr fr':Fr} {d:Option Tmp} {v:Value} (h:fr.put d v=some fr'):fr'.m=fr.m/\fr'.marks=fr.marks/\fr'.round=fr.round/\((d=none/\fr'=fr)∨∃k,d=some k/\k<fr.m/\fr'= {fr with t:=fr.t.set 24 k (some v)}):=by
 unfold Fr.put at h
 split at h
 ·injection h with h;subst h;exact⟨rfl,rfl,rfl,.inl ⟨rfl,rfl⟩⟩
 ·rename_i k
  obtain⟨hb,h⟩:=Bh h
  injection h with h;subst h
  exact⟨rfl,rfl,rfl,.inr ⟨k,rfl,Gq hb,rfl⟩⟩
def FK (fr fr':Fr):Prop:=fr'.round=fr.round/\fr'.m=fr.m/\fr'.marks=fr.marks
theorem FK.put {fr fr':Fr} {d:Option Tmp} {v:Value} (h:fr.put d v=some fr'):FK fr fr':=⟨(M3 h).2.2.1,(M3 h).1,(M3 h).2.1⟩
theorem FK.trans {a b c:Fr} (h:FK a b) (k:FK b c):FK a c:=⟨k.1.trans h.1,k.2.1.trans h.2.1,k.2.2.trans h.2.2⟩
theorem Qk {R:Rec} (hR:RM R) {ops:Array Oper}:∀(l:List Oper) (fr fr':Fr) (s s':St),seqB P R ops l fr s=some (fr',s')->MB s s'/\FK fr fr'
 | [],fr,fr',s,s',h=>by injection h with h;injection h with h1 h2;subst h1;subst h2;exact⟨MB.refl _,rfl,rfl,rfl⟩
 |o::l,fr,fr',s,s',h=>by
  simp only[seqB] at h
  rcases D1 h with⟨_,h⟩|⟨_,h⟩
  ·split at h
   ·rename_i q hq
    split at h
    ·rename_i fr1 hp
     obtain⟨h1,h2⟩:=Qk hR l fr1 fr' q.2 s' h
     exact⟨(exec_mb hR hq).trans h1,(FK.put hp).trans h2⟩
    ·cases h
   ·cases h
  ·split at h
   ·rename_i fr1 hp
    obtain⟨h1,h2⟩:=Qk hR l fr1 fr' s s' h
    exact⟨h1,(FK.put hp).trans h2⟩
   ·cases h
theorem Kc (a b:List (Nat×Nat)) (k:Nat):A4 (a++b) k=(A4 a k||A4 b k):=by
 induction a with
 |nil=>simp[A4]
 |cons p a ih=>obtain⟨x,y⟩:=p;simp only[List.cons_append,A4,ih,Bool.or_assoc]
def Li (A:List Nat) (W:List Bool) (ps:List (Nat×Nat)) (i:Nat) (rs:List (Nat×Nat×Nat)) (s:St):St:=bif W.getD i false then s else {s with lim:=s.next,one:=N5 i ps,hid:=P2 A i rs ps++s.hid}
def back (s q:St):St:= {q with lim:=s.lim,one:=s.one,hid:=s.hid}
theorem Na (A:List Nat) (W:List Bool) (ps:List (Nat×Nat)) (i:Nat) (rs:List (Nat×Nat×Nat)) (s:St):(Li A W ps i rs s).T=s.T/\(Li A W ps i rs s).next=s.next/\(Li A W ps i rs s).ng=s.ng:=by unfold Li;cases W.getD i false<;>exact⟨rfl,rfl,rfl⟩
theorem Nh {lim one next:Nat}:∀ {ps:List (Nat×Nat)},Hy lim one next ps=true->∀p∈ps,(lim<=p.2∨p.2=one)/\p.2<next
 | [],_,p,hp=>by cases hp
 |(i,b)::l,h,p,hp=>by
  simp only[Hy,Bool.and_eq_true,Bool.or_eq_true,Nat.ble_eq] at h
  rcases List.mem_cons.1 hp with rfl|hp
  ·exact⟨h.1.1.1.imp id Nat.eq_of_beq_eq_true,Gq h.1.1.2⟩
  ·exact Nh h.2 p hp
theorem Pe {i:Nat}:∀ {ps:List (Nat×Nat)},N5 i ps=big∨(i,N5 i ps)∈ps
 | []=> .inl rfl
 |(k,b)::l=>by
  simp only[N5]
  rw[bq]
  split
  ·rename_i h;subst h;exact .inr (by simp)
  ·rcases Pe (i:=i) (ps:=l) with h|h
   ·exact .inl h
   ·exact .inr (by simp[h])
theorem wrt_inI {A:List Nat} {W:List Bool} {ps:List (Nat×Nat)} {i:Nat} {rs:List (Nat×Nat×Nat)} {s:St} {nx:Nat} (hap:Hy s.lim s.one nx ps=true) (hb:s.next<=big) {k:Nat} (hk:k<s.next) (h:wrt (Li A W ps i rs s) k):wrt s k:=by
 unfold Li at h
 cases hw:W.getD i false with
 |true=>rw[hw] at h;exact h
 |false=>
  rw[hw] at h
  rcases h with h|h
  ·have h:s.next<=k:=h;omega
  ·have h:k=N5 i ps:=h
   rcases Pe (i:=i) (ps:=ps) with e|e
   ·omega
   ·have:=(Nh hap _ e).1
    rw[<-h] at this
    exact this
theorem hid_inI {A:List Nat} {W:List Bool} {ps:List (Nat×Nat)} {i:Nat} {rs:List (Nat×Nat×Nat)} {s:St} {k:Nat} (h:A4 s.hid k=true):A4 (Li A W ps i rs s).hid k=true:=by
 unfold Li
 cases W.getD i false with
 |true=>exact h
 |false=>show A4 (P2 A i rs ps++s.hid) k=true;rw[Kc,h,Bool.or_true]
theorem Xi {A:List Nat} {W:List Bool} {ps:List (Nat×Nat)} {i:Nat} {rs:List (Nat×Nat×Nat)} {s q:St} {nx:Nat} (hap:Hy s.lim s.one nx ps=true) (h:MB (Li A W ps i rs s) q):MB s (back s q):=fun hb=>by
 obtain⟨eT,en,eg⟩:=Na A W ps i rs s
 obtain⟨m,hq⟩:=h (by rw[en];exact hb)
 refine⟨⟨by have:=m.next;rw[en] at this;exact this,rfl,rfl,rfl,fun k hk hw=> ?_,fun k hk hd=> ?_,fun hu k hk=> ?_,m.ng.trans eg⟩,hq⟩
 ·show q.T.get k=s.T.get k
  rw[<-eT]
  refine m.same k (by rw[en];exact hk) ?_
  rcases hw with hw|hw
  ·exact .inl fun h=>hw (wrt_inI hap hb hk h)
  ·exact .inr (hid_inI hw)
 ·exact m.dead k (by rw[en];exact hk) (by rw[eT];exact hd)
 ·exact m.up (fun i hi=>by rw[eT];exact hu i (by rw[en] at hi;exact hi)) k hk
theorem Qx {R:Rec} (hR:RM R) {ops:Array Oper} {A:List Nat} {W:List Bool} {ps:List (Nat×Nat)}:∀(l:List Oper) (i:Nat) (rs:List (Nat×Nat×Nat)) (fr fr':Fr) (s s':St),(∃nx,Hy s.lim s.one nx ps=true)->anyB P R ops A W ps l i rs fr s=some (fr',s')->MB s s'/\FK fr fr'
 | [],i,rs,fr,fr',s,s',_,h=>by injection h with h;injection h with h1 h2;subst h1;subst h2;exact⟨MB.refl _,rfl,rfl,rfl⟩
 |o::l,i,rs,fr,fr',s,s',hap,h=>by
  simp only[anyB] at h
  rcases D1 h with⟨_,h⟩|⟨_,h⟩
  ·rcases D1 h with⟨_,h⟩|⟨_,h⟩
   ·split at h
    ·split at h
     ·rename_i fr1 hp
      obtain⟨h1,h2⟩:=Qx hR l _ _ fr1 fr' s s' hap h
      exact⟨h1,(FK.put hp).trans h2⟩
     ·cases h
    ·cases h
   ·split at h
    ·rename_i q hq
     split at h
     ·rename_i fr1 hp
      have:=Xi (s:=s) hap.choose_spec (Lk hR (s:=Li A W ps i rs s) hq)
      obtain⟨h1,h2⟩:=Qx hR l _ _ fr1 fr' (back s q.2) s' hap h
      exact⟨this.trans h1,(FK.put hp).trans h2⟩
     ·cases h
    ·cases h
  ·split at h
   ·rename_i fr1 hp
    obtain⟨h1,h2⟩:=Qx hR l _ _ fr1 fr' s s' hap h
    exact⟨h1,(FK.put hp).trans h2⟩
   ·cases h
theorem regB_mb {R:Rec} (hR:RM R) {ops:Array Oper} {draw:Bool} {fr fr':Fr} (h:regB P R ops draw fr s=some (fr',s')):MB s s'/\FK fr fr':=by
 unfold regB at h
 rcases D1 h with⟨_,h⟩|⟨_,h⟩
 ·obtain⟨_,h⟩:=Bh h
  obtain⟨hap,h⟩:=Bh h
  exact Qx hR _ _ _ _ _ _ _ ⟨_,hap⟩ h
 ·exact Qk hR _ _ _ _ _ (Bh h).2
theorem J5 :∀(l:List Nat) (s s':St),takeMarks l s=some s'->MB s s'
 | [],s,s',h=>by injection h with h;subst h;exact MB.refl _
 |d::l,s,s',h=>by
  simp only[takeMarks] at h
  split at h
  ·rename_i hg
   split at h
   ·rename_i s1 hp
    exact(Hs hg hp).trans (J5 l s1 s' h)
   ·cases h
  ·cases h
end
set_option maxRecDepth 100000
def FO (ro:Option Nat):Fence:= {Fence.wide with round:=ro}
section
variable {P:Program} {B:Nat} {r:Rn} {s s':St} {w:World} {v:Value} {ro:Option Nat} {n:Nat}
theorem upon_in {o:Oper} {a:Act} {next:Act->World->Prop} {Q:Exit->Act->World->Prop} {K:Value->World->Prop} {res:Result Go.Next} (h:Ky P K res) (hn:∀v w',K v w'->next (a.put o.dst v) w'):o.uponIn (FO ro) n P a next Q res:=by
 cases res with
 |halt x w'=>cases h
 |ok x w'=>
  cases x<;>simp only[Ky] at h<;>simp only[Oper.uponIn]
  ·exact hn _ _ h
  ·exact hn _ _ h
  ·refine⟨fun e=>by simp[FO,Fence.wide] at e,?_⟩
   have:=(h (n-1)).mono (R':=fun e w''=>match e with| .returned v=>next (a.put o.dst v) w''| .panicked chain=>Q (.panic chain) a w''| .outgrown=>LetsOut Q) (by rintro e w'' ⟨v,rfl,hk⟩;exact hn _ _ hk)
   exact this.mono fun e w'' hh=>by cases e<;>exact hh
  ·refine⟨fun e=>by simp[FO,Fence.wide] at e,?_⟩
   have:=(h (n-1)).mono (R':=fun e w''=>match e with| .returned v=>next (a.put o.dst v) w''| .panicked chain=>Q (.panic chain) a w''| .outgrown=>LetsOut Q) (by rintro e w'' ⟨v,rfl,hk⟩;exact hn _ _ hk)
   exact this.mono fun e w'' hh=>by cases e<;>exact hh
theorem exec_nd {R:Rec} {ρ:Operand->Value} {o:Oper} (h:exec P R ρ o s=some (v,s')) (c:Call):o.op≠ .defer c:=by
 intro e
 unfold exec Mn execH at h
 rw[e] at h
 cases h
theorem op_in {o:Oper} {a:Act} {next:Act->World->Prop} {Q:Exit->Act->World->Prop} {K:Value->World->Prop} (hd:∀c,o.op≠ .defer c) (h:Ky P K ((execOp a.eval o).run P w)) (hn:∀v w',K v w'->next (a.put o.dst v) w'):o.wpIn (FO ro) n P a w next Q:=by
 refine⟨fun _ _=>trivial,?_⟩
 rw[Oper.semAt_eq _ _ _ hd]
 exact upon_in h hn
def MkR (r:Rn) (marks:List Nat) (ds:List Deferred):Prop:=ds.length=marks.length/\∀(i:Nat) d,marks[i]? =some d->∃b x,r d=some (b,x)/\ds[i]? =some {target:= .collected b,args:= #[]}
def FrR (r:Rn) (fr:Fr) (a:Act):Prop:=SlR r fr.t fr.m a.tmps/\MkR r fr.marks a.defers
theorem MkR.mono {r r':Rn} (hr:∀k p,r k=some p->r' k=some p) {m:List Nat} {ds:List Deferred} (h:MkR r m ds):MkR r' m ds:=⟨h.1,fun i d hd=>let ⟨b,x,h1,h2⟩:=h.2 i d hd;⟨b,x,hr _ _ h1,h2⟩⟩
theorem FrR.mono {r r':Rn} (hr:∀k p,r k=some p->r' k=some p) {fr:Fr} {a:Act} (h:FrR r fr a):FrR r' fr a:=⟨h.1.mono hr,h.2.mono hr⟩
theorem ev_ok {ng:Nat} {fr:Fr} {a:Act} (hg:∀g,g<ng->r g=some (g,0)) (h:SlR r fr.t fr.m a.tmps) {x:Operand} (hx:Uv ng x=true):VR r (fr.ev x) (a.eval x):=by
 cases x with
 |tmp t=>exact h.2.2 t
 |const v=>exact .pln hx
 |global g=>exact .ptr (hg g (Gq hx))
 |func f=>exact .pln rfl
theorem FrR.put {fr fr':Fr} {a:Act} (h:FrR r fr a) {d:Option Tmp} {v v':Value} (hp:fr.put d v=some fr') (hv:VR r v v'):FrR r fr' (a.put d v'):=by
 obtain⟨_,_,_,h4⟩:=M3 hp
 rcases h4 with⟨rfl,rfl⟩|⟨k,rfl,hk,rfl⟩
 ·exact h
 ·exact⟨h.1.put hk hv,h.2⟩
theorem VR.boolR {b:Bool} {v:Value} (h:VR r v (.bool b)):v= .bool b:=by
 generalize hu:Value.bool b=u at h
 cases h<;>first|rfl|(exact hu.symm)|(cases hu;done)|(cases hu;rfl)
theorem Zc {ops:Array Oper} {fr:Fr} {o:Oper} {a:Act} (h:∀k want d,o.guard=some (k,want)->Bf ops k=some d->VR r (fr.get d) (a.tmps.getD d undef)):Region.wanted o (yielded ops a.tmps)=guardB ops fr o:=by
 unfold guardB
 cases hg:o.guard with
 |none=>simp[Region.wanted,hg]
 |some p=>
  obtain⟨k,want⟩:=p
  simp only
  cases hd:Bf ops k with
  |none=>
   unfold Bf at hd
   simp[Region.wanted,hg,yielded,hd]
  |some d=>
   have hv:=h k want d hg hd
   simp only
   by_cases hb:∃b,a.tmps.getD d undef= .bool b
   ·obtain⟨b,hb⟩:=hb
    rw[hb] at hv
    rw[hv.boolR,Gu hg hd hb]
    cases b<;>cases want<;>rfl
   ·have h2:∀b,fr.get d≠ .bool b:=fun b e=>by rw[e] at hv;exact hb ⟨b,hv.bool⟩
    have h3:Region.wanted o (yielded ops a.tmps)=false:=by
     unfold Bf at hd
     simp only[Region.wanted,hg,yielded,hd,Option.bind_some]
     cases hx:a.tmps[d]? with
     |none=>rfl
     |some u=>
      cases u<;>first|rfl|skip
      rename_i b
      exact absurd ⟨b,by simp[hx]⟩ hb
    rw[h3]
    split
    ·rename_i b e;exact absurd e (h2 b)
    ·rfl
theorem Uu {ng:Nat} {ops:Array Oper} (h:Ro ng ops=true) {o:Oper} (ho:o∈ops.toList) {x:Operand} (hx:x∈o.op.operands):Uv ng x=true:=by
 unfold Ro at h
 have:=List.all_eq_true.1 h o ho
 exact List.all_eq_true.1 this x (by simpa using hx)
theorem Vw {R:Rec} (hM:RM R) (hR:Km P R) {ops:Array Oper} {ng:Nat} (hok:Ro ng ops=true) {Q:Exit->Act->World->Prop}:∀(l:List Oper) (fr fr':Fr) (s s':St) (r:Rn) (w:World) (a:Act),s.ng=ng->(∀o∈l,o∈ops.toList)->seqB P R ops l fr s=some (fr',s')->s'.next<=B->Rel P B r s w->FrR r fr a->
  (∀r' a' w',FrR r' fr' a'->Dl P B s s' r r' w w'->Q .normal a' w')->wpListIn (FO ro) n P ops Q l a w
 | [],fr,fr',s,s',r,w,a,_,_,h,hB,hr,hf,hQ=>by
  injection h with h;injection h with h1 h2;subst h1;subst h2
  exact hQ r a w hf (Dl.refl hr)
 |o::l,fr,fr',s,s',r,w,a,hng,hl,h,hB,hr,hf,hQ=>by
  simp only[seqB] at h
  have ho:=hl o (by simp)
  have hg:=Zc (ops:=ops) (fr:=fr) (o:=o) (a:=a) (r:=r) fun k want d _ _=>hf.1.2.2 d
  unfold wpListIn
  rw[hg]
  rcases D1 h with⟨hw,h⟩|⟨hw,h⟩
  ·rw[hw,if_pos rfl]
   split at h
   ·rename_i q hq
    split at h
    ·rename_i fr1 hp
     have hm:=(Qk hM l fr1 fr' q.2 s' h).1
     have hq2:=(exec_mb hM hq hr.nb)
     have hle:q.2.next<=B:=Nat.le_trans (hm hq2.2).1.next hB
     have hx:=exec_ok hR (v:=q.1) (s':=q.2) hr hle hq (ρ':=a.eval) fun x hx=>ev_ok (fun g hg=>hr.gl g (hng▸hg)) hf.1 (Uu hok ho hx)
     refine op_in (exec_nd hq) hx ?_
     rintro v' w' ⟨r',hv,hG⟩
     refine Vw hM hR hok l fr1 fr' q.2 s' r' w' _ (hG.mono.ng.trans hng) (fun o ho=>hl o (by simp[ho])) h hB hG.rel ((hf.mono (hG.up hr)).put hp hv) fun r2 a2 w2 h1 h2=>hQ r2 a2 w2 h1 (hG.trans h2)
    ·cases h
   ·cases h
  ·rw[hw,if_neg (by simp)]
   split at h
   ·rename_i fr1 hp
    exact⟨fun _ _=>trivial,Vw hM hR hok l fr1 fr' s s' r w _ hng (fun o ho=>hl o (by simp[ho])) h hB hr (hf.put hp VR.undef) hQ⟩
   ·cases h
end
set_option maxRecDepth 100000
def AA (ops:Array Oper):List Nat:=Mh ops.toList []
def WW (ops:Array Oper):List Bool:=wrs ops (AA ops)
def StepT (P:Program) (R:Rec) (ops:Array Oper) (ps:List (Nat×Nat)) (i:Nat) (fr:Fr) (s:St) (rs:List (Nat×Nat×Nat)) (fr1:Fr) (s1:St) (rs1:List (Nat×Nat×Nat)) (v:Value):Prop:=
 ∃o,ops[i]? =some o/\fr.put o.dst v=some fr1/\
  ((guardB ops fr o=false/\v=undef/\s1=s/\rs1=rs)∨(guardB ops fr o=true/\Mn o=true/\Zj P fr.ev o=some v/\s1=s/\rs1=rs)∨
   (guardB ops fr o=true/\Mn o=false/\∃q,execH P R fr.ev o (Li (AA ops) (WW ops) ps i rs s)=some (v,q)/\s1=back s q/\rs1=(i,s.next,q.next)::rs))
theorem Vh {P:Program} {R:Rec} {ops:Array Oper} {ps:List (Nat×Nat)}:∀(l:List Oper) (i:Nat) (rs:List (Nat×Nat×Nat)) (fr fr':Fr) (s s':St),(∀j,l[j]? =ops[i+j]?)->anyB P R ops (AA ops) (WW ops) ps l i rs fr s=some (fr',s')->
  ∃(F:Nat->Fr) (S:Nat->St) (RS:Nat->List (Nat×Nat×Nat)) (V:Nat->Value),F i=fr/\S i=s/\RS i=rs/\F (i+l.length)=fr'/\S (i+l.length)=s'/\∀k,i<=k->k<i+l.length->StepT P R ops ps k (F k) (S k) (RS k) (F (k+1)) (S (k+1)) (RS (k+1)) (V k)
 | [],i,rs,fr,fr',s,s',_,h=>by
  injection h with h;injection h with h1 h2;subst h1;subst h2
  exact⟨fun _=>fr,fun _=>s,fun _=>rs,fun _=>undef,rfl,rfl,rfl,rfl,rfl,fun k h1 h2=>by simp at h2;omega⟩
 |o::l,i,rs,fr,fr',s,s',hl,h=>by
  have ho:ops[i]? =some o:=by simpa using (hl 0).symm
  have hl':∀j,l[j]? =ops[i+1+j]? :=fun j=>by have:=hl (j+1);simpa [Nat.add_assoc,Nat.add_comm 1 j] using this
  have key:∀(fr1:Fr) (s1:St) (rs1:List (Nat×Nat×Nat)) (v:Value),anyB P R ops (AA ops) (WW ops) ps l (i+1) rs1 fr1 s1=some (fr',s')->StepT P R ops ps i fr s rs fr1 s1 rs1 v->
    ∃(F:Nat->Fr) (S:Nat->St) (RS:Nat->List (Nat×Nat×Nat)) (V:Nat->Value),F i=fr/\S i=s/\RS i=rs/\F (i+(o::l).length)=fr'/\S (i+(o::l).length)=s'/\∀k,i<=k->k<i+(o::l).length->StepT P R ops ps k (F k) (S k) (RS k) (F (k+1)) (S (k+1)) (RS (k+1)) (V k):=by
   intro fr1 s1 rs1 v h1 h2
   obtain⟨F,S,RS,V,e1,e2,e3,e4,e5,e6⟩:=Vh l (i+1) rs1 fr1 fr' s1 s' hl' h1
   have hlen:i+(o::l).length=i+1+l.length:=by simp;omega
   refine⟨fun k=>if k=i then fr else F k,fun k=>if k=i then s else S k,fun k=>if k=i then rs else RS k,fun k=>if k=i then v else V k,if_pos rfl,if_pos rfl,if_pos rfl,?_,?_,fun k h3 h4=> ?_⟩
   ·simp only[];rw[if_neg (by simp),hlen];exact e4
   ·simp only[];rw[if_neg (by simp),hlen];exact e5
   ·by_cases hk:k=i
    ·subst hk
     simp only[if_true]
     rw[if_neg (by omega),if_neg (by omega),if_neg (by omega),e1,e2,e3]
     exact h2
    ·simp only[if_neg hk,if_neg (show k+1≠i by omega)]
     exact e6 k (by omega) (by omega)
  simp only[anyB] at h
  rcases D1 h with⟨hg,h⟩|⟨hg,h⟩
  ·rcases D1 h with⟨hp,h⟩|⟨hp,h⟩
   ·split at h
    ·rename_i v hv
     split at h
     ·rename_i fr1 hpt
      exact key fr1 s rs v h ⟨o,ho,hpt,.inr (.inl ⟨hg,hp,hv,rfl,rfl⟩)⟩
     ·cases h
    ·cases h
   ·split at h
    ·rename_i q hq
     split at h
     ·rename_i fr1 hpt
      exact key fr1 (back s q.2) _ q.1 h ⟨o,ho,hpt,.inr (.inr ⟨hg,hp,q.2,hq,rfl,rfl⟩)⟩
     ·cases h
    ·cases h
  ·split at h
   ·rename_i fr1 hpt
    exact key fr1 s rs undef h ⟨o,ho,hpt,.inl ⟨hg,rfl,rfl,rfl⟩⟩
   ·cases h
/-! what stands ahead -/
theorem Rw (A:List Nat) (k:Nat):∀(es:List Edge),Nat.testBit (Fj A es) k=true->∃e∈es,Region.binds .any e=true/\(k=e.on∨Nat.testBit (A.getD e.on 0) k=true)
 | [],h=>by simp[Fj] at h
 |e::es,h=>by
  have hm:Fj A (e::es)=bif Region.binds .any e then Nat.lor (Nat.lor (Fj A es) (Nat.shiftLeft 1 e.on)) (A.getD e.on 0) else Fj A es:=rfl
  rw[hm] at h
  cases hb:Region.binds .any e with
  |false=>
   rw[hb] at h
   obtain⟨e',h1,h2⟩:=Rw A k es h
   exact⟨e',by simp[h1],h2⟩
  |true=>
   rw[hb] at h
   have h:Nat.testBit ((Fj A es|||(1<<<e.on))|||A.getD e.on 0) k=true:=h
   rw[Nat.testBit_or,Nat.testBit_or,Bool.or_eq_true,Bool.or_eq_true] at h
   rcases h with(h|h)|h
   ·obtain⟨e',h1,h2⟩:=Rw A k es h
    exact⟨e',by simp[h1],h2⟩
   ·refine⟨e,by simp,hb,.inl ?_⟩
    rw[Nat.testBit_shiftLeft] at h
    simp only[Bool.and_eq_true,decide_eq_true_eq] at h
    have h2:=h.2
    rcases Nat.eq_zero_or_pos (k-e.on) with h3|h3
    ·omega
    ·exfalso
     have:Nat.testBit 1 (k-e.on)=false:=Nat.testBit_lt_two_pow (by have:2^1<=2^(k-e.on):=Nat.pow_le_pow_right (by omega) h3;omega)
     rw[this] at h2;cases h2
   ·exact⟨e,by simp,hb,.inr h⟩
theorem Z7 :∀(l:List Oper) (A:List Nat),(Mh l A).length=A.length+l.length
 | [],A=>rfl
 |o::l,A=>by simp only[Mh];rw[Z7 l];simp;omega
theorem Z6 :∀(l:List Oper) (A:List Nat),(Mh l A).take A.length=A
 | [],A=>by simp[Mh]
 |o::l,A=>by
  simp only[Mh]
  have h:=Z6 l (A++ [Fj A o.after.toList])
  have h2:=congrArg (List.take A.length) h
  rw[List.take_take] at h2
  simpa using h2
theorem ancs_at :∀(l:List Oper) (A:List Nat) (j:Nat) (o:Oper),l[j]? =some o->(Mh l A)[A.length+j]? =some (Fj ((Mh l A).take (A.length+j)) o.after.toList)
 | [],A,j,o,h=>by simp at h
 |p::l,A,0,o,h=>by
  simp at h
  subst h
  simp only[Mh,Nat.add_zero]
  have h1:=Z6 l (A++ [Fj A p.after.toList])
  have h2:(Mh l (A++ [Fj A p.after.toList])).take A.length=A:=by
   have:=congrArg (List.take A.length) h1
   rw[List.take_take] at this
   simpa using this
  rw[h2]
  have h3:=congrArg (fun q=>q[A.length]?) h1
  simp only[List.getElem?_take] at h3
  simpa using h3
 |p::l,A,j+1,o,h=>by
  simp only[Mh]
  have:=ancs_at l (A++ [Fj A p.after.toList]) j o (by simpa using h)
  have e:(A++ [Fj A p.after.toList]).length+j=A.length+(j+1):=by simp;omega
  rw[e] at this
  exact this
theorem anc_bit {ops:Array Oper} {i k:Nat} (h:Pp (AA ops) i k=true):∃o,ops[i]? =some o/\∃e∈o.after,Region.binds .any e=true/\(k=e.on∨(e.on<i/\Pp (AA ops) e.on k=true)):=by
 unfold Pp at h
 have hi:i<(AA ops).length:=by
  rcases Nat.lt_or_ge i (AA ops).length with h1|h1
  ·exact h1
  ·rw[show (AA ops).getD i 0=0 by simp[h1]] at h;simp at h
 have hi':i<ops.toList.length:=by have:=Z7 ops.toList [];unfold AA at hi;simp at this⊢;omega
 have hat:=ancs_at ops.toList [] i ops.toList[i] (by simp[hi'])
 simp only[List.length_nil,Nat.zero_add] at hat
 have e:(AA ops).getD i 0=Fj ((AA ops).take i) ops.toList[i].after.toList:=by
  have hat':(AA ops)[i]? =some (Fj ((AA ops).take i) ops.toList[i].after.toList):=hat
  simp[hat']
 rw[e] at h
 obtain⟨ed,h1,h2,h3⟩:=Rw _ k _ h
 refine⟨ops.toList[i],by simp,ed,by simpa using h1,h2,?_⟩
 rcases h3 with h3|h3
 ·exact .inl h3
 ·right
  rcases Nat.lt_or_ge ed.on i with h4|h4
  ·refine⟨h4,?_⟩
   unfold Pp
   rw[show (AA ops).getD ed.on 0=((AA ops).take i).getD ed.on 0 by simp[List.getElem?_take,h4]]
   exact h3
  ·rw[show ((AA ops).take i).getD ed.on 0=0 by simp[List.getElem?_take,Nat.not_lt.2 h4]] at h3
   simp at h3
theorem anc_all {ops:Array Oper} {L:Nat->Bool} (down:∀j o,L j=true->ops[j]? =some o->∀e∈o.after,Region.binds .any e=true->L e.on=true) {k:Nat}:∀(i:Nat),(∀o,ops[i]? =some o->∀e∈o.after,Region.binds .any e=true->L e.on=true)->Pp (AA ops) i k=true->L k=true:=by
 intro i
 induction i using Nat.strongRecOn with
 |ind i ih=>
  intro hi h
  obtain⟨o,ho,e,he,hb,h1|⟨h1,h2⟩⟩:=anc_bit h
  ·rw[h1];exact hi o ho e he hb
  ·exact ih e.on h1 (fun o' ho'=>down e.on o' (hi o ho e he hb) ho') h2
theorem Kj {A:List Nat} {i k:Nat} (h:i≠k):F7 A i k=F7 A k i:=by
 unfold F7
 rcases Nat.lt_or_ge i k with h1|h1
 ·have e1:Nat.blt i k=true:=by simp[Nat.blt];omega
  have e2:Nat.blt k i=false:=by
   cases e:Nat.blt k i with
   |false=>rfl
   |true=>have:=Gq e;omega
  rw[e1,e2];rfl
 ·have e1:Nat.blt k i=true:=by simp[Nat.blt];omega
  have e2:Nat.blt i k=false:=by
   cases e:Nat.blt i k with
   |false=>rfl
   |true=>have:=Gq e;omega
  rw[e1,e2];rfl
theorem Gx {A:List Nat} {i k:Nat} (h:k<i):F7 A i k=Pp A i k:=by
 unfold F7
 rw[show Nat.blt k i=true by simp[Nat.blt];omega];rfl
theorem Xp {ops:Array Oper} {i k:Nat} {o:Oper} (h:(WW ops).getD i false=true) (hne:k≠i) (ho:ops[k]? =some o) (hp:Mn o=false):F7 (AA ops) i k=true:=by
 unfold WW wrs at h
 have hi:i<ops.size:=by
  rcases Nat.lt_or_ge i ops.size with h1|h1
  ·exact h1
  ·rw[show ((List.range ops.size).map fun i=>wrB ops (AA ops) i).getD i false=false by simp[h1]] at h;cases h
 rw[show ((List.range ops.size).map fun i=>wrB ops (AA ops) i).getD i false=wrB ops (AA ops) i by simp[hi]] at h
 unfold wrB at h
 have hk:k<ops.size:=(Array.getElem?_eq_some_iff.1 ho).1
 have:=List.all_eq_true.1 h k (List.mem_range.2 hk)
 simp only[Bool.or_eq_true] at this
 rcases this with(h1|h1)|h1
 ·exact absurd (Nat.eq_of_beq_eq_true h1) hne
 ·exact h1
 ·rw[ho] at h1;simp only at h1;rw[hp] at h1;cases h1
set_option maxRecDepth 100000
structure RC (P:Program) (R:Rec) (ops:Array Oper) (ps:List (Nat×Nat)) (F:Nat->Fr) (S:Nat->St) (RS:Nat->List (Nat×Nat×Nat)) (V:Nat->Value):Prop where
 hM:RM R
 step:∀k,k<ops.size->StepT P R ops ps k (F k) (S k) (RS k) (F (k+1)) (S (k+1)) (RS (k+1)) (V k)
 rs0:RS 0= []
 ok:okR (S 0).ng ops=true
 ap:Hy (S 0).lim (S 0).one (S 0).next ps=true
 nb:(S 0).next<=big
 up0:∀k,(S 0).next<=k->(S 0).T.get k=none
 hl0:∀k,A4 (S 0).hid k=true->k<(S 0).next
 fm:(F 0).m<=big
 gn:(S 0).ng<=(S 0).next
def P8 (P:Program) (R:Rec) (ops:Array Oper) (ps:List (Nat×Nat)) (F:Nat->Fr) (S:Nat->St) (RS:Nat->List (Nat×Nat×Nat)) (V:Nat->Value) (k:Nat):Prop:=
 ∃o,ops[k]? =some o/\guardB ops (F k) o=true/\Mn o=false/\∃q,execH P R (F k).ev o (Li (AA ops) (WW ops) ps k (RS k) (S k))=some (V k,q)/\S (k+1)=back (S k) q/\RS (k+1)=(k,(S k).next,q.next)::RS k
section
variable {P:Program} {R:Rec} {ops:Array Oper} {ps:List (Nat×Nat)} {F:Nat->Fr} {S:Nat->St} {RS:Nat->List (Nat×Nat×Nat)} {V:Nat->Value}
def inK (ops:Array Oper) (ps:List (Nat×Nat)) (S:Nat->St) (RS:Nat->List (Nat×Nat×Nat)) (k:Nat):St:=Li (AA ops) (WW ops) ps k (RS k) (S k)
theorem RC.kind (c:RC P R ops ps F S RS V) {k:Nat} (hk:k<ops.size):(S (k+1)=S k/\RS (k+1)=RS k)∨P8 P R ops ps F S RS V k:=by
 obtain⟨o,ho,_,h⟩:=c.step k hk
 rcases h with⟨_,_,h1,h2⟩|⟨_,_,_,h1,h2⟩|⟨h1,h2,q,h3,h4,h5⟩
 ·exact .inl ⟨h1,h2⟩
 ·exact .inl ⟨h1,h2⟩
 ·exact .inr ⟨o,ho,h1,h2,q,h3,h4,h5⟩
theorem RC.base (c:RC P R ops ps F S RS V):∀k,k<=ops.size->(S k).lim=(S 0).lim/\(S k).one=(S 0).one/\(S k).hid=(S 0).hid/\(S k).next<=big/\Kq (S 0) (S k)
 |0,_=>⟨rfl,rfl,rfl,c.nb,Kq.refl _⟩
 |k+1,hk=>by
  obtain⟨h1,h2,h3,h4,h5⟩:=c.base k (by omega)
  rcases c.kind (show k<ops.size by omega) with⟨e,_⟩|⟨o,ho,hg,hp,q,hq,e,_⟩
  ·rw[e];exact⟨h1,h2,h3,h4,h5⟩
  ·have hap:Hy (S k).lim (S k).one (S 0).next ps=true:=by rw[h1,h2];exact c.ap
   obtain⟨m,hb⟩:=Xi (s:=S k) hap (Lk c.hM hq) h4
   rw[e]
   exact⟨h1,h2,h3,hb,h5.trans m⟩
theorem RC.m1 (c:RC P R ops ps F S RS V) {k:Nat} (hk:k<ops.size):Kq (S k) (S (k+1)):=by
 obtain⟨h1,h2,h3,h4,h5⟩:=c.base k (by omega)
 rcases c.kind hk with⟨e,_⟩|⟨o,ho,hg,hp,q,hq,e,_⟩
 ·rw[e];exact Kq.refl _
 ·have hap:Hy (S k).lim (S k).one (S 0).next ps=true:=by rw[h1,h2];exact c.ap
  rw[e];exact(Xi (s:=S k) hap (Lk c.hM hq) h4).1
theorem RC.mono (c:RC P R ops ps F S RS V) {j:Nat}:∀k,j<=k->k<=ops.size->Kq (S j) (S k)
 |0,h,_=>by
  obtain rfl:j=0:=by omega
  exact Kq.refl _
 |k+1,h,hk=>by
  rcases Nat.lt_or_ge k j with h1|h1
  ·obtain rfl:j=k+1:=by omega
   exact Kq.refl _
  ·exact(c.mono k h1 (by omega)).trans (c.m1 (by omega))
theorem RC.upk (c:RC P R ops ps F S RS V) {k:Nat} (hk:k<=ops.size):∀i,(S k).next<=i->(S k).T.get i=none:=(c.base k hk).2.2.2.2.up c.up0
theorem RC.inK_next (_c:RC P R ops ps F S RS V) (k:Nat):(inK ops ps S RS k).next=(S k).next:=(Na _ _ _ _ _ _).2.1
theorem RC.inK_ng' (_c:RC P R ops ps F S RS V) (k:Nat):(inK ops ps S RS k).ng=(S k).ng:=(Na _ _ _ _ _ _).2.2
theorem RC.inK_T (_c:RC P R ops ps F S RS V) (k:Nat):(inK ops ps S RS k).T=(S k).T:=(Na _ _ _ _ _ _).1
theorem RC.rs_mem (c:RC P R ops ps F S RS V) {j:Nat} (hj:j<ops.size) (ht:P8 P R ops ps F S RS V j):∀k,j<k->k<=ops.size->(j,(S j).next,(S (j+1)).next)∈RS k
 |0,h,_=>by omega
 |k+1,h,hk=>by
  by_cases e:j=k
  ·subst e
   obtain⟨o,ho,hg,hp,q,hq,e1,e2⟩:=ht
   rw[e2,e1];exact List.mem_cons_self ..
  ·have ih:=c.rs_mem hj ht k (by omega) (by omega)
   rcases c.kind (show k<ops.size by omega) with⟨_,e2⟩|⟨o,ho,hg,hp,q,hq,e1,e2⟩
   ·rw[e2];exact ih
   ·rw[e2];exact List.mem_cons_of_mem _ ih
theorem RC.rs_le (c:RC P R ops ps F S RS V):∀k,k<=ops.size->∀p∈RS k,p.2.2<=(S k).next
 |0,_,p,hp=>by rw[c.rs0] at hp;cases hp
 |k+1,hk,p,hp=>by
  have hm:=(c.m1 (show k<ops.size by omega)).next
  have ih:=c.rs_le k (by omega)
  rcases c.kind (show k<ops.size by omega) with⟨e1,e2⟩|⟨o,ho,hg,hq',q,hq,e1,e2⟩
  ·rw[e2] at hp;rw[e1];exact ih p hp
  ·rw[e2] at hp
   rcases List.mem_cons.1 hp with rfl|hp
   ·rw[e1];exact Nat.le_refl _
   ·exact Nat.le_trans (ih p hp) hm
theorem Nb {a b k:Nat}:∀ {l:List (Nat×Nat)},(a,b)∈l->a<=k->k<b->A4 l k=true
 | [],h,_,_=>by cases h
 |(x,y)::l,h,h1,h2=>by
  simp only[A4,Bool.or_eq_true,Bool.and_eq_true,Nat.ble_eq]
  rcases List.mem_cons.1 h with e|h
  ·injection e with e1 e2;subst e1;subst e2
   exact .inl ⟨h1,by simp[Nat.blt];omega⟩
  ·exact .inr (Nb h h1 h2)
theorem U3 {n:Nat}:∀ {l:List (Nat×Nat)},(∀p∈l,p.2<=n)->∀k,A4 l k=true->k<n
 | [],_,k,h=>by cases h
 |(x,y)::l,hl,k,h=>by
  simp only[A4,Bool.or_eq_true,Bool.and_eq_true] at h
  rcases h with h|h
  ·have:=Gq h.2;have:=hl (x,y) (by simp);omega
  ·exact U3 (fun p hp=>hl p (by simp[hp])) k h
theorem RC.hlt (c:RC P R ops ps F S RS V) {k:Nat} (hk:k<=ops.size):∀i,A4 (inK ops ps S RS k).hid i=true->i<(S k).next:=by
 obtain⟨h1,h2,h3,h4,h5⟩:=c.base k hk
 have h0:∀i,A4 (S k).hid i=true->i<(S k).next:=fun i hi=>by
  rw[h3] at hi;exact Nat.lt_of_lt_of_le (c.hl0 i hi) h5.next
 intro i hi
 unfold inK Li at hi
 cases hw:(WW ops).getD k false with
 |true=>rw[hw] at hi;exact h0 i hi
 |false=>
  rw[hw] at hi
  have hi:A4 (P2 (AA ops) k (RS k) ps++(S k).hid) i=true:=hi
  rw[Kc,Bool.or_eq_true] at hi
  rcases hi with hi|hi
  ·refine U3 (n:=(S k).next) (fun p hp=> ?_) i hi
   unfold P2 at hp
   rcases List.mem_append.1 hp with hp|hp
   ·obtain⟨q,hq,e⟩:=List.mem_filterMap.1 hp
    cases hb:Pp (AA ops) k q.1 with
    |true=>rw[hb] at e;cases e
    |false=>rw[hb] at e;injection e with e;subst e;exact c.rs_le k hk q hq
   ·obtain⟨q,hq,e⟩:=List.mem_filterMap.1 hp
    cases hb:(Nat.beq q.1 k||F7 (AA ops) k q.1) with
    |true=>rw[hb] at e;cases e
    |false=>rw[hb] at e;injection e with e;subst e;have:=(Nh c.ap q hq).2;have:=h5.next;show q.2+1<=_;omega
  ·exact h0 i hi
def Ow (S:Nat->St) (k id:Nat):Prop:=(S (k+1)).T.get id≠(S k).T.get id
def K3 (ops:Array Oper) (ps:List (Nat×Nat)) (S:Nat->St) (RS:Nat->List (Nat×Nat×Nat)) (k id:Nat):Prop:=id<(S k).next/\A4 (inK ops ps S RS k).hid id=false
theorem RC.turns (c:RC P R ops ps F S RS V) {k id:Nat} (hk:k<ops.size) (h:Ow S k id):P8 P R ops ps F S RS V k/\((K3 ops ps S RS k id/\wrt (inK ops ps S RS k) id)∨((S k).next<=id/\id<(S (k+1)).next)):=by
 rcases c.kind hk with⟨e,_⟩|ht
 ·exact absurd (by rw[e]) h
 refine⟨ht,?_⟩
 rcases Nat.lt_or_ge id (S k).next with h1|h1
 ·left
  obtain⟨o,ho,hg,hp,q,hq,e1,e2⟩:=ht
  have h4:=(c.base k (by omega)).2.2.2.1
  obtain⟨m,_⟩:=Lk c.hM hq (by rw[(Na _ _ _ _ _ _).2.1];exact h4)
  have hs:¬(¬wrt (inK ops ps S RS k) id∨A4 (inK ops ps S RS k).hid id=true):=fun hh=>by
   have:=m.same id (by rw[(Na _ _ _ _ _ _).2.1];exact h1) hh
   rw[(Na _ _ _ _ _ _).1] at this
   apply h
   rw[e1];exact this
  refine⟨⟨h1,?_⟩,?_⟩
  ·cases e:A4 (inK ops ps S RS k).hid id with
   |false=>rfl
   |true=>exact absurd (.inr e) hs
  ·exact Classical.not_not.1 fun hh=>hs (.inl hh)
 ·right
  refine⟨h1,?_⟩
  rcases Nat.lt_or_ge id (S (k+1)).next with h2|h2
  ·exact h2
  ·exact absurd ((c.upk (show k+1<=ops.size by omega) id h2).trans (c.upk (show k<=ops.size by omega) id h1).symm) h
theorem RC.cmp (c:RC P R ops ps F S RS V) {i k id:Nat} (hi:i<ops.size) (hk:k<ops.size) (hne:i≠k) (ti:P8 P R ops ps F S RS V i) (hs:K3 ops ps S RS i id) (ht:Ow S k id):F7 (AA ops) i k=true:=by
 obtain⟨tk,hd⟩:=c.turns hk ht
 have tk0:=tk
 obtain⟨oi,hoi,_,hpi,_⟩:=ti
 obtain⟨ok,hok,_,hpk,_⟩:=tk
 cases hwi:(WW ops).getD i false with
 |true=>exact Xp hwi (Ne.symm hne) hok hpk
 |false=>
  cases hwk:(WW ops).getD k false with
  |true=>rw[Kj hne];exact Xp hwk hne hoi hpi
  |false=>
   cases ha:F7 (AA ops) i k with
   |true=>rfl
   |false=>
    exfalso
    have hh:=hs.2
    have e1:(inK ops ps S RS i).hid=P2 (AA ops) i (RS i) ps++(S i).hid:=by unfold inK Li;rw[hwi];rfl
    rw[e1,Kc,Bool.or_eq_false_iff] at hh
    unfold P2 at hh
    rw[Kc,Bool.or_eq_false_iff] at hh
    obtain⟨⟨h1,h2⟩,_⟩:=hh
    have hnew:(S k).next<=id->id<(S (k+1)).next->False:=fun g1 g2=>by
     rcases Nat.lt_or_ge k i with hlt|hge
     ·have hm:=c.rs_mem hk tk0 i hlt (by omega)
      have:((S k).next,(S (k+1)).next)∈(RS i).filterMap fun r=>bif Pp (AA ops) i r.1 then none else some (r.2.1,r.2.2):=by
       refine List.mem_filterMap.2 ⟨_,hm,?_⟩
       simp only[]
       rw[Gx hlt] at ha
       rw[ha];rfl
      rw[Nb this g1 g2] at h1;cases h1
     ·have:=(c.mono k (show i<=k by omega) (by omega)).next
      have:=hs.1
      omega
    rcases hd with⟨⟨g1,_⟩,g2⟩|⟨g1,g2⟩
    ·have e2:inK ops ps S RS k= {S k with lim:=(S k).next,one:=N5 k ps,hid:=P2 (AA ops) k (RS k) ps++(S k).hid}:=by unfold inK Li;rw[hwk];rfl
     rw[e2] at g2
     rcases g2 with g2|g2
     ·have g2:(S k).next<=id:=g2;omega
     ·have g2:id=N5 k ps:=g2
      rcases Pe (i:=k) (ps:=ps) with e|e
      ·have:=(c.base k (by omega)).2.2.2.1;omega
      ·rw[<-g2] at e
       have:(id,id+1)∈ps.filterMap fun p=>bif Nat.beq p.1 i||F7 (AA ops) i p.1 then none else some (p.2,Nat.succ p.2):=by
        refine List.mem_filterMap.2 ⟨_,e,?_⟩
        simp only[]
        rw[ha,show Nat.beq k i=false by
         cases e3:Nat.beq k i with
         |false=>rfl
         |true=>exact absurd (Nat.eq_of_beq_eq_true e3) (Ne.symm hne)]
        rfl
       rw[Nb this (Nat.le_refl _) (by omega)] at h2;cases h2
    ·exact hnew g1 g2
open Classical in
noncomputable def vw (S:Nat->St) (L:Nat->Bool) (id:Nat):Nat->Option AO
 |0=>(S 0).T.get id
 |n+1=>if L n=true/\Ow S n id then (S (n+1)).T.get id else vw S L id n
theorem Q1 {L L':Nat->Bool} {id:Nat}:∀n,(∀k,k<n->Ow S k id->L k=L' k)->vw S L id n=vw S L' id n
 |0,_=>rfl
 |n+1,h=>by
  have ih:=Q1 n fun k hk=>h k (by omega)
  simp only[vw]
  by_cases ht:Ow S n id
  ·rw[h n (by omega) ht,ih]
  ·rw[if_neg fun hh=>ht hh.2,if_neg fun hh=>ht hh.2,ih]
theorem Nm {L:Nat->Bool} {id:Nat}:∀n,(∀k,k<n->Ow S k id->L k=true)->vw S L id n=(S n).T.get id
 |0,_=>rfl
 |n+1,h=>by
  have ih:=Nm n fun k hk=>h k (by omega)
  simp only[vw]
  by_cases ht:Ow S n id
  ·rw[if_pos ⟨h n (by omega) ht,ht⟩]
  ·rw[if_neg fun hh=>ht hh.2,ih]
   exact(Classical.not_not.1 ht).symm
theorem Nl {L:Nat->Bool} {id i:Nat}:∀n,i<=n->(∀k,i<=k->k<n->Ow S k id->L k=false)->vw S L id n=vw S L id i
 |0,h,_=>by
  obtain rfl:i=0:=by omega
  rfl
 |n+1,h,hk=>by
  rcases Nat.lt_or_ge n i with h1|h1
  ·obtain rfl:i=n+1:=by omega
   rfl
  ·have ih:=Nl n h1 fun k g1 g2=>hk k g1 (by omega)
   simp only[vw]
   rw[if_neg (fun hh=>(by have:=hk n h1 (by omega) hh.2;rw[hh.1] at this;cases this))]
   exact ih
end
set_option maxRecDepth 100000
theorem Ky.mono {P:Program} {K K':Value->World->Prop} {res:Result Go.Next} (h:Ky P K res) (hk:∀v w,K v w->K' v w):Ky P K' res:=by
 cases res with
 |halt x w'=>exact h
 |ok x w'=>
  cases x<;>simp only[Ky] at h⊢
  ·exact hk _ _ h
  ·exact hk _ _ h
  ·exact fun n=>(h n).mono fun e w'' ⟨v,e1,e2⟩=>⟨v,e1,hk _ _ e2⟩
  ·exact fun n=>(h n).mono fun e w'' ⟨v,e1,e2⟩=>⟨v,e1,hk _ _ e2⟩
structure HI (P:Program) (ops:Array Oper) (S:Nat->St) (r0:Rn) (w0:World) (L:Nat->Bool) (r:Rn) (w:World):Prop where
 obj:∀id o,A4 (S 0).hid id=false->vw S L id ops.size=some o->∃b x o',r id=some (b,x)/\w.heap[b]? =some o'/\OR P r x o o'
 inj:∀id id' b x x',A4 (S 0).hid id=false->A4 (S 0).hid id'=false->vw S L id ops.size≠none->vw S L id' ops.size≠none->r id=some (b,x)->r id'=some (b,x')->id=id'
 fresh:∀j,j<ops.size->L j=false->∀k,(S j).next<=k->k<(S (j+1)).next->r k=none
 rr:∀k,k<(S 0).next∨(S ops.size).next<=k->r k=r0 k
 size:w0.heap.size<=w.heap.size
 os:w.os=w0.os
 tape:w.tape=w0.tape
 output:w.output=w0.output
 frame:∀b,b<w0.heap.size->(∀k x,k<(S 0).next->wrt (S 0) k->(S 0).get k≠none->r0 k≠some (b,x))->w.heap[b]? =w0.heap[b]?
 new:∀k b x,(S 0).next<=k->A4 (S 0).hid k=false->vw S L k ops.size≠none->r k=some (b,x)->w0.heap.size<=b∨∃k0 x0,k0<(S 0).next/\wrt (S 0) k0/\(S 0).get k0≠none/\r0 k0=some (b,x0)
 gl:∀g,g<(S 0).ng->r g=some (g,0)
def Lx (L:Nat->Bool) (i:Nat):Nat->Bool:=fun j=>if j=i then true else L j
structure RF (ops:Array Oper) (L:Nat->Bool) (i:Nat):Prop where
 unl:L i=false
 anc:∀k,Pp (AA ops) i k=true->L k=true
 desc:∀k,k<ops.size->Pp (AA ops) k i=true->L k=false
section
variable {P:Program} {R:Rec} {ops:Array Oper} {ps:List (Nat×Nat)} {F:Nat->Fr} {S:Nat->St} {RS:Nat->List (Nat×Nat×Nat)} {V:Nat->Value} {r0 r:Rn} {w0 w:World} {L:Nat->Bool} {i:Nat}
theorem RC.hid0 (c:RC P R ops ps F S RS V) (hi:i<=ops.size) {id:Nat} (h:A4 (inK ops ps S RS i).hid id=false):A4 (S 0).hid id=false:=by
 cases e:A4 (S 0).hid id with
 |false=>rfl
 |true=>
  have:=hid_inI (A:=AA ops) (W:=WW ops) (ps:=ps) (i:=i) (rs:=RS i) (s:=S i) (k:=id) (by rw[(c.base i hi).2.2.1];exact e)
  unfold inK at h
  rw[this] at h;cases h
theorem RC.get_sees (c:RC P R ops ps F S RS V) (hi:i<=ops.size) {id:Nat} {o:AO} (h:(inK ops ps S RS i).get id=some o):K3 ops ps S RS i id/\(S i).T.get id=some o:=by
 rw[Jm] at h
 split at h
 ·cases h
 ·rename_i hh
  rw[c.inK_T] at h
  refine⟨⟨?_,by simpa using hh⟩,h⟩
  rcases Nat.lt_or_ge id (S i).next with h1|h1
  ·exact h1
  ·rw[c.upk hi id h1] at h;cases h
theorem RC.see (c:RC P R ops ps F S RS V) (hi:i<ops.size) (rf:RF ops L i) (ti:P8 P R ops ps F S RS V i) {id:Nat} (hs:K3 ops ps S RS i id):vw S L id ops.size=(S i).T.get id:=by
 rw[Nl ops.size (i:=i) (by omega) ?_,Nm i ?_]
 ·intro k hk ht
  have:=c.cmp hi (by omega) (by omega) ti hs ht
  rw[Gx hk] at this
  exact rf.anc k this
 ·intro k hk hk2 ht
  by_cases e:k=i
  ·subst e;exact rf.unl
  ·have:=c.cmp hi hk2 (Ne.symm e) ti hs ht
   rw[Kj (Ne.symm e),Gx (by omega)] at this
   exact rf.desc k hk2 this
theorem RC.see' (c:RC P R ops ps F S RS V) (hi:i<ops.size) (rf:RF ops L i) (ti:P8 P R ops ps F S RS V i) {id:Nat} (hs:K3 ops ps S RS i id):vw S (Lx L i) id ops.size=(S (i+1)).T.get id:=by
 rw[Nl ops.size (i:=i+1) (by omega) ?_,Nm (i+1) ?_]
 ·intro k hk ht
  unfold Lx
  by_cases e:k=i
  ·rw[if_pos e]
  ·rw[if_neg e]
   have:=c.cmp hi (by omega) (by omega) ti hs ht
   rw[Gx (by omega)] at this
   exact rf.anc k this
 ·intro k hk hk2 ht
  unfold Lx
  rw[if_neg (by omega)]
  have:=c.cmp hi hk2 (by omega) ti hs ht
  rw[Kj (by omega),Gx (by omega)] at this
  exact rf.desc k hk2 this
theorem RC.new' (c:RC P R ops ps F S RS V) (hi:i<ops.size) (rf:RF ops L i) {id:Nat} (h1:(S i).next<=id) (h2:id<(S (i+1)).next):vw S (Lx L i) id ops.size=(S (i+1)).T.get id:=by
 rw[Nl ops.size (i:=i+1) (by omega) ?_,Nm (i+1) ?_]
 ·intro k hk ht
  unfold Lx
  by_cases e:k=i
  ·rw[if_pos e]
  ·exfalso
   obtain⟨_,hd⟩:=c.turns (by omega) ht
   have g1:=(c.mono i (show k+1<=i by omega) (by omega)).next
   have g2:=(c.mono i (show k<=i by omega) (by omega)).next
   rcases hd with⟨⟨q1,_⟩,_⟩|⟨_,q1⟩<;>omega
 ·intro k hk hk2 ht
  unfold Lx
  rw[if_neg (by omega)]
  obtain⟨tk,hd⟩:=c.turns hk2 ht
  have g1:=(c.mono k (show i+1<=k by omega) (by omega)).next
  rcases hd with⟨hs,_⟩|⟨q1,_⟩
  ·by_cases hti:Ow S i id
   ·have:=c.cmp hk2 hi (by omega) tk hs hti
    rw[Gx (by omega)] at this
    exact rf.desc k hk2 this
   ·exfalso
    have e0:(S (i+1)).T.get id=none:=(Classical.not_not.1 hti).trans (c.upk (by omega) id h1)
    have e1:=(c.mono k (show i+1<=k by omega) (by omega)).dead id h2 e0
    have e2:=(c.mono (k+1) (show i+1<=k+1 by omega) (by omega)).dead id h2 e0
    exact ht (e2.trans e1.symm)
  ·omega
theorem RC.old' (c:RC P R ops ps F S RS V) (hi:i<ops.size) {id:Nat} (h1:¬K3 ops ps S RS i id) (h2:¬((S i).next<=id/\id<(S (i+1)).next)):vw S (Lx L i) id ops.size=vw S L id ops.size:=by
 refine Q1 ops.size fun k hk ht=> ?_
 unfold Lx
 rw[if_neg]
 rintro rfl
 obtain⟨_,hd⟩:=c.turns hk ht
 rcases hd with⟨hs,_⟩|hn
 ·exact h1 hs
 ·exact h2 hn
theorem RC.pure' (c:RC P R ops ps F S RS V) (hI:HI P ops S r0 w0 L r w) (hi:i<ops.size) (he:S (i+1)=S i):HI P ops S r0 w0 (Lx L i) r w:=by
 have hv:∀id,vw S (Lx L i) id ops.size=vw S L id ops.size:=fun id=>Q1 ops.size fun k hk ht=>by
  unfold Lx
  rw[if_neg]
  rintro rfl
  exact ht (by rw[he])
 refine⟨fun id o h1 h2=>hI.obj id o h1 (by rw[<-hv];exact h2),fun id id' b x x' h1 h2 h3 h4=>hI.inj id id' b x x' h1 h2 (by rw[<-hv];exact h3) (by rw[<-hv];exact h4),fun j hj hL=>hI.fresh j hj ?_,hI.rr,hI.size,hI.os,hI.tape,hI.output,hI.frame,fun k b x h1 h2 h3=>hI.new k b x h1 h2 (by rw[<-hv];exact h3),hI.gl⟩
 unfold Lx at hL
 split at hL
 ·cases hL
 ·exact hL
theorem RC.inK_ng (c:RC P R ops ps F S RS V) {k:Nat} (hk:k<=ops.size):(inK ops ps S RS k).ng=(S 0).ng:=(c.inK_ng' k).trans (c.base k hk).2.2.2.2.ng
theorem RC.rel (c:RC P R ops ps F S RS V) (hI:HI P ops S r0 w0 L r w) (hi:i<ops.size) (rf:RF ops L i) (ti:P8 P R ops ps F S RS V i):Rel P (S (i+1)).next r (inK ops ps S RS i) w:=by
 have hn:=c.inK_next i
 refine⟨by rw[hn];exact(c.base i (by omega)).2.2.2.1,by rw[hn];exact(c.m1 hi).next,fun k h1 h2=>hI.fresh i hi rf.unl k (by rw[<-hn];exact h1) h2,fun k o h=> ?_,fun k k' b x x' h1 h2 h3 h4=> ?_,fun k h=>by rw[c.inK_T];exact c.upk (by omega) k (by rw[<-hn];exact h),fun k h=>by rw[hn];exact c.hlt (by omega) k h,fun g hg=>hI.gl g (by rw[c.inK_ng (by omega)] at hg;exact hg),by rw[c.inK_ng (by omega),hn];exact Nat.le_trans c.gn (c.base i (by omega)).2.2.2.2.next⟩
 ·obtain⟨hs,e⟩:=c.get_sees (by omega) h
  exact hI.obj k o (c.hid0 (by omega) hs.2) (by rw[c.see hi rf ti hs,e])
 ·cases e1:(inK ops ps S RS i).get k with
  |none=>exact absurd e1 h1
  |some o1=>
   cases e2:(inK ops ps S RS i).get k' with
   |none=>exact absurd e2 h2
   |some o2=>
    obtain⟨s1,g1⟩:=c.get_sees (by omega) e1
    obtain⟨s2,g2⟩:=c.get_sees (by omega) e2
    exact hI.inj k k' b x x' (c.hid0 (by omega) s1.2) (c.hid0 (by omega) s2.2) (by rw[c.see hi rf ti s1,g1];simp) (by rw[c.see hi rf ti s2,g2];simp) h3 h4
theorem RC.third (c:RC P R ops ps F S RS V) (hR:Km P R) (hI:HI P ops S r0 w0 L r w) (hi:i<ops.size) (rf:RF ops L i) {o:Oper} {q:St} {ρ':Operand->Value} (ti:P8 P R ops ps F S RS V i)
  (hq:execH P R (F i).ev o (Li (AA ops) (WW ops) ps i (RS i) (S i))=some (V i,q)) (hS:S (i+1)=back (S i) q) (hρ:∀x∈o.op.operands,VR r ((F i).ev x) (ρ' x)):
  Ky P (fun v' w'=>∃r',VR r' (V i) v'/\(∀k p,r k=some p->r' k=some p)/\HI P ops S r0 w0 (Lx L i) r' w') ((execOp ρ' o).run P w):=by
 have hrel:=c.rel hI hi rf ti
 have hqn:q.next=(S (i+1)).next:=by rw[hS];rfl
 have hqT:q.T=(S (i+1)).T:=by rw[hS];rfl
 refine(U7 hR hrel (by rw[hqn];exact Nat.le_refl _) hq hρ).mono ?_
 rintro v' w' ⟨r',hv,hG⟩
 have hn:=c.inK_next i
 have hup:=hG.up hrel
 have hbase:=c.base i (by omega)
 have hm1:=(c.m1 hi).next
 have hrr:∀k,k<(S i).next∨(S (i+1)).next<=k->r' k=r k:=fun k hk=>hG.ext.rr k (by rw[hqn];show k<(inK ops ps S RS i).next∨_;rw[hn];exact hk)
 have qget:∀id,A4 (inK ops ps S RS i).hid id=false->q.get id=(S (i+1)).T.get id:=fun id hh=>by
  rw[Jm,hG.mono.hid]
  show (if A4 (inK ops ps S RS i).hid id=true then none else _)=_
  rw[hh,hqT];rfl
 have nhid:∀id,(S i).next<=id->A4 (inK ops ps S RS i).hid id=false:=fun id h=>by
  cases e:A4 (inK ops ps S RS i).hid id with
  |false=>rfl
  |true=>exact absurd (c.hlt (by omega) id e) (by omega)
 --what is seen,or new
 have vis:∀id,(K3 ops ps S RS i id∨((S i).next<=id/\id<(S (i+1)).next))->vw S (Lx L i) id ops.size=q.get id:=by
  rintro id (h|⟨h1,h2⟩)
  ·rw[c.see' hi rf ti h,qget id h.2]
  ·rw[c.new' hi rf h1 h2,qget id (nhid id h1)]
 --a number that is seen by the step,of a block
 have seen:∀k,(inK ops ps S RS i).get k≠none->K3 ops ps S RS i k/\vw S L k ops.size≠none:=fun k h=>by
  cases e:(inK ops ps S RS i).get k with
  |none=>exact absurd e h
  |some oo=>
   obtain⟨s1,g1⟩:=c.get_sees (by omega) e
   exact⟨s1,by rw[c.see hi rf ti s1,g1];simp⟩
 have back0:∀k0 b x0,k0<(inK ops ps S RS i).next->wrt (inK ops ps S RS i) k0->(inK ops ps S RS i).get k0≠none->r k0=some (b,x0)->w0.heap.size<=b∨∃k x,k<(S 0).next/\wrt (S 0) k/\(S 0).get k≠none/\r0 k=some (b,x):=by
  intro k0 b x0 h1 h2 h3 h4
  obtain⟨s1,g1⟩:=seen k0 h3
  rcases Nat.lt_or_ge k0 (S 0).next with h5|h5
  ·right
   have hap:Hy (S i).lim (S i).one (S 0).next ps=true:=by rw[hbase.1,hbase.2.1];exact c.ap
   have hw:wrt (S i) k0:=wrt_inI hap hbase.2.2.2.1 s1.1 h2
   refine⟨k0,x0,h5,by unfold wrt at*;rw[<-hbase.1,<-hbase.2.1];exact hw,?_,by rw[<-hI.rr k0 (.inl h5)];exact h4⟩
   rw[Jm,c.hid0 (by omega) s1.2]
   intro e
   have e:(S 0).T.get k0=none:=e
   have:=hbase.2.2.2.2.dead k0 h5 e
   rw[c.see hi rf ti s1,this] at g1
   exact g1 rfl
  ·exact hI.new k0 b x0 h5 (c.hid0 (by omega) s1.2) g1 h4
 have deadS:∀id,K3 ops ps S RS i id->vw S (Lx L i) id ops.size≠none->vw S L id ops.size≠none:=fun id hs h=>by
  rw[c.see' hi rf ti hs] at h
  rw[c.see hi rf ti hs]
  intro e
  exact h ((c.m1 hi).dead id hs.1 e)
 have Cu:∀id id' b x x',(K3 ops ps S RS i id∨((S i).next<=id/\id<(S (i+1)).next))->¬(K3 ops ps S RS i id'∨((S i).next<=id'/\id'<(S (i+1)).next))->A4 (S 0).hid id=false->A4 (S 0).hid id'=false->
   vw S (Lx L i) id ops.size≠none->vw S (Lx L i) id' ops.size≠none->r' id=some (b,x)->r' id'=some (b,x')->id=id':=by
  intro id id' b x x' h1 h2 d1 d2 v1 v2 e1 e2
  have h2a:¬K3 ops ps S RS i id':=fun h=>h2 (.inl h)
  have h2b:¬((S i).next<=id'/\id'<(S (i+1)).next):=fun h=>h2 (.inr h)
  rw[c.old' hi h2a h2b] at v2
  rw[hrr id' (by omega)] at e2
  have hbl:b<w.heap.size:=by
   cases e:vw S L id' ops.size with
   |none=>exact absurd e v2
   |some oo=>
    obtain⟨b',y,o',g1,g2,_⟩:=hI.obj id' oo d2 e
    rw[e2] at g1;injection g1 with g1;injection g1 with g1 _;subst g1
    exact(Array.getElem?_eq_some_iff.1 g2).1
  rcases h1 with hs|⟨n1,n2⟩
  ·rw[hrr id (.inl hs.1)] at e1
   exact hI.inj id id' b x x' d1 d2 (deadS id hs v1) v2 e1 e2
  ·rcases hG.ext.new id b x (by show (inK ops ps S RS i).next<=id;rw[hn];exact n1) (by rw[<-vis id (.inr ⟨n1,n2⟩)];exact v1) e1 with h3|⟨k0,x0,a1,a2,a3,a4⟩
   ·omega
   ·obtain⟨s1,g1⟩:=seen k0 a3
    have:=hI.inj k0 id' b x0 x' (c.hid0 (by omega) s1.2) d2 g1 v2 a4 e2
    subst this
    exact absurd s1 h2a
 refine⟨r',hv,hup,fun id oo h1 h2=> ?_,fun id id' b x x' h1 h2 h3 h4 h5 h6=> ?_,fun j hj hL k h1 h2=> ?_,fun k hk=> ?_,Nat.le_trans hI.size hG.ext.size,hG.ext.os.trans hI.os,hG.ext.tape.trans hI.tape,hG.ext.output.trans hI.output,fun b hb H=> ?_,fun k b x h1 h2 h3 h4=> ?_,fun g hg=>hup _ _ (hI.gl g hg)⟩
 ·by_cases hs:K3 ops ps S RS i id∨((S i).next<=id/\id<(S (i+1)).next)
  ·rw[vis id hs] at h2
   exact hG.rel.obj id oo h2
  ·have hsa:¬K3 ops ps S RS i id:=fun h=>hs (.inl h)
   rw[c.old' hi hsa fun h=>hs (.inr h)] at h2
   obtain⟨b,x,o',g1,g2,g3⟩:=hI.obj id oo h1 h2
   refine⟨b,x,o',hup _ _ g1,(hG.ext.frame b (Array.getElem?_eq_some_iff.1 g2).1 fun k y a1 a2 a3 a4=> ?_).trans g2,g3.mono hup⟩
   obtain⟨s1,q1⟩:=seen k a3
   have:=hI.inj k id b y x (c.hid0 (by omega) s1.2) h1 q1 (by rw[h2];simp) a4 g1
   subst this
   exact hsa s1
 ·by_cases hs:K3 ops ps S RS i id∨((S i).next<=id/\id<(S (i+1)).next)
  ·by_cases hs':K3 ops ps S RS i id'∨((S i).next<=id'/\id'<(S (i+1)).next)
   ·rw[vis id hs] at h3
    rw[vis id' hs'] at h4
    exact hG.rel.inj id id' b x x' h3 h4 h5 h6
   ·exact Cu id id' b x x' hs hs' h1 h2 h3 h4 h5 h6
  ·by_cases hs':K3 ops ps S RS i id'∨((S i).next<=id'/\id'<(S (i+1)).next)
   ·exact(Cu id' id b x' x hs' hs h2 h1 h4 h3 h6 h5).symm
   ·have a1:¬((S i).next<=id/\id<(S (i+1)).next):=fun h=>hs (.inr h)
    have a2:¬((S i).next<=id'/\id'<(S (i+1)).next):=fun h=>hs' (.inr h)
    rw[c.old' hi (fun h=>hs (.inl h)) a1] at h3
    rw[c.old' hi (fun h=>hs' (.inl h)) a2] at h4
    rw[hrr id (by omega)] at h5
    rw[hrr id' (by omega)] at h6
    exact hI.inj id id' b x x' h1 h2 h3 h4 h5 h6
 ·unfold Lx at hL
  split at hL
  ·cases hL
  ·rename_i hne
   have:r' k=r k:=by
    refine hrr k ?_
    rcases Nat.lt_or_ge j i with hlt|hge
    ·left;have:=(c.mono i (show j+1<=i by omega) (by omega)).next;omega
    ·right;have:=(c.mono j (show i+1<=j by omega) (by omega)).next;omega
   rw[this];exact hI.fresh j hj hL k h1 h2
 ·have g1:=hbase.2.2.2.2.next
  have g2:=(c.mono ops.size (show i+1<=ops.size by omega) (Nat.le_refl _)).next
  rw[hrr k (by omega)]
  exact hI.rr k hk
 ·refine(hG.ext.frame b (Nat.lt_of_lt_of_le hb hI.size) fun k x a1 a2 a3 a4=> ?_).trans (hI.frame b hb H)
  rcases back0 k b x a1 a2 a3 a4 with h5|⟨k0,x0,q1,q2,q3,q4⟩
  ·omega
  ·exact H k0 x0 q1 q2 q3 q4
 ·by_cases hnew:(S i).next<=k/\k<(S (i+1)).next
  ·rcases hG.ext.new k b x (by show (inK ops ps S RS i).next<=k;rw[hn];exact hnew.1) (by rw[<-vis k (.inr hnew)];exact h3) h4 with h5|⟨k0,x0,a1,a2,a3,a4⟩
   ·exact .inl (Nat.le_trans hI.size h5)
   ·exact back0 k0 b x0 a1 a2 a3 a4
  ·rw[hrr k (by omega)] at h4
   by_cases hs:K3 ops ps S RS i k
   ·exact hI.new k b x h1 h2 (deadS k hs h3) h4
   ·rw[c.old' hi hs hnew] at h3
    exact hI.new k b x h1 h2 h3 h4
end
set_option maxRecDepth 100000
structure SI (ops:Array Oper) (F:Nat->Fr) (V:Nat->Value) (L:Nat->Bool) (r:Rn) (a:Act):Prop where
 size:a.tmps.size=(F 0).m
 wr:∀j s,j<ops.size->L j=true->Bf ops j=some s->VR r (V j) (a.tmps.getD s undef)
 un:∀s,(∀j,j<ops.size->L j=true->Bf ops j≠some s)->VR r ((F 0).get s) (a.tmps.getD s undef)
 mks:MkR r (F 0).marks a.defers
theorem uniq_ok {ng:Nat} {ops:Array Oper} (h:okR ng ops=true) {i j:Nat} {d:Tmp} (hi:Bf ops i=some d) (hj:Bf ops j=some d):i=j:=by
 have hs:∀k d,Bf ops k=some d->k<ops.size:=fun k d hk=>by
  unfold Bf at hk
  rcases Nat.lt_or_ge k ops.size with h|h
  ·exact h
  ·rw[Array.getElem?_eq_none h] at hk;cases hk
 unfold okR at h
 simp only[Bool.and_eq_true] at h
 have:=List.all_eq_true.1 (List.all_eq_true.1 h.1.1.2 i (List.mem_range.2 (hs i d hi))) j (List.mem_range.2 (hs j d hj))
 simpa [hi,hj] using this
theorem Yi {ng:Nat} {ops:Array Oper} (h:okR ng ops=true) {i j:Nat} {o:Oper} {s:Tmp} (ho:ops[i]? =some o) (hs:s∈o.looksAt ops) (hj:Bf ops j=some s) (hne:i≠j):F7 (AA ops) i j=true:=by
 have hjs:j<ops.size:=by
  unfold Bf at hj
  rcases Nat.lt_or_ge j ops.size with h|h
  ·exact h
  ·rw[Array.getElem?_eq_none h] at hj;cases hj
 unfold okR at h
 simp only[Bool.and_eq_true] at h
 have:=List.all_eq_true.1 h.1.2 i (List.mem_range.2 (Array.getElem?_eq_some_iff.1 ho).1)
 rw[ho] at this
 have:=List.all_eq_true.1 (List.all_eq_true.1 this s hs) j (List.mem_range.2 hjs)
 rw[hj] at this
 simp only[Bool.or_eq_true] at this
 rcases this with h1|h1
 ·exfalso
  rw[show Nat.beq s s=true from Nat.beq_refl s] at h1
  cases h1
 ·rw[bq,if_neg hne] at h1
  exact h1
theorem back_ok {ng:Nat} {ops:Array Oper} (h:okR ng ops=true) {i:Nat} {o:Oper} (ho:ops[i]? =some o) {e:Edge} (he:e∈o.after) (hb:Region.binds .any e=true):e.on<i:=by
 unfold okR at h
 simp only[Bool.and_eq_true] at h
 have:=List.all_eq_true.1 h.1.1.1 i (List.mem_range.2 (Array.getElem?_eq_some_iff.1 ho).1)
 simp only[ho] at this
 have:=Array.all_eq_true_iff_forall_mem.1 this e he
 simpa [hb] using this
theorem least_rdy {ng:Nat} {ops:Array Oper} (hok:okR ng ops=true) {listed:Array Bool} (hls:listed.size=ops.size):∀i,i<ops.size->listed.getD i false=false->∃k,k∈Region.ready .any ops listed:=by
 intro i
 induction i using Nat.strongRecOn with
 |ind i ih=>
  intro hi hl
  by_cases hex:∃j,j<i/\listed.getD j false=false
  ·obtain⟨j,hj,hjl⟩:=hex
   exact ih j hj (by omega) hjl
  ·refine⟨i,mem_ready.2 ⟨?_,ops[i],by simp[hi],fun e he hb=> ?_⟩⟩
   ·simp[hls,hi] at hl⊢;exact hl
   ·cases h:listed.getD e.on false with
    |true=>rfl
    |false=>exact absurd ⟨e.on,back_ok hok (show ops[i]? =some ops[i] by simp[hi]) he hb,h⟩ hex
section
variable {P:Program} {R:Rec} {ops:Array Oper} {ps:List (Nat×Nat)} {F:Nat->Fr} {S:Nat->St} {RS:Nat->List (Nat×Nat×Nat)} {V:Nat->Value} {r0 r:Rn} {w0 w:World} {L:Nat->Bool} {i:Nat}
theorem RC.fm' (c:RC P R ops ps F S RS V):∀k,k<=ops.size->(F k).m=(F 0).m/\(F k).marks=(F 0).marks/\(F k).round=(F 0).round
 |0,_=>⟨rfl,rfl,rfl⟩
 |k+1,h=>by
  obtain⟨o,ho,hp,_⟩:=c.step k (by omega)
  obtain⟨h1,h2,h3,_⟩:=M3 hp
  obtain⟨g1,g2,g3⟩:=c.fm' k (by omega)
  exact⟨h1.trans g1,h2.trans g2,h3.trans g3⟩
theorem RC.fget (c:RC P R ops ps F S RS V) (s:Tmp):∀k,k<=ops.size->(∃j,j<k/\Bf ops j=some s/\(F k).get s=V j)∨((∀j,j<k->Bf ops j≠some s)/\(F k).get s=(F 0).get s)
 |0,_=> .inr ⟨fun j hj=>by omega,rfl⟩
 |k+1,h=>by
  obtain⟨o,ho,hp,_⟩:=c.step k (by omega)
  have hw:Bf ops k=o.dst:=by unfold Bf;rw[ho];rfl
  obtain⟨h1,h2,h3,h4⟩:=M3 hp
  rcases h4 with⟨e1,e2⟩|⟨d,e1,hd,e2⟩
  ·rw[e2]
   rcases c.fget s k (by omega) with⟨j,hj,hj1,hj2⟩|⟨hj1,hj2⟩
   ·exact .inl ⟨j,by omega,hj1,hj2⟩
   ·refine .inr ⟨fun j hj=> ?_,hj2⟩
    by_cases e:j=k
    ·subst e;rw[hw,e1];simp
    ·exact hj1 j (by omega)
  ·have hb:d+2<=2^24:=by
    have q1:=(c.fm' k (by omega)).1
    have q2:=c.fm
    rw[<-q1] at q2
    unfold big at q2
    exact Nat.le_trans (Nat.succ_le_succ hd) (by omega)
   have hg:(F (k+1)).get s=if s=d then V k else (F k).get s:=by
    rw[e2]
    unfold Fr.get
    simp only[]
    rw[Tr.get_set 24 _ d _ s hb]
    split<;>rfl
   by_cases e:s=d
   ·subst e
    exact .inl ⟨k,by omega,by rw[hw,e1],by rw[hg,if_pos rfl]⟩
   ·rw[if_neg e] at hg
    rw[hg]
    rcases c.fget s k (by omega) with⟨j,hj,hj1,hj2⟩|⟨hj1,hj2⟩
    ·exact .inl ⟨j,by omega,hj1,hj2⟩
    ·refine .inr ⟨fun j hj=> ?_,hj2⟩
     by_cases e':j=k
     ·subst e';rw[hw,e1];intro h;injection h with h;exact e h.symm
     ·exact hj1 j (by omega)
theorem RC.slot (c:RC P R ops ps F S RS V) (hi:i<ops.size) (rf:RF ops L i) {a:Act} (hS:SI ops F V L r a) {o:Oper} (ho:ops[i]? =some o) {s:Tmp} (hs:s∈o.looksAt ops):VR r ((F i).get s) (a.tmps.getD s undef):=by
 rcases c.fget s i (by omega) with⟨j,hj,hj1,hj2⟩|⟨hj1,hj2⟩
 ·rw[hj2]
  have:=Yi c.ok ho hs hj1 (by omega)
  rw[Gx hj] at this
  exact hS.wr j s (by omega) (rf.anc j this) hj1
 ·rw[hj2]
  refine hS.un s fun j hj hL hw=> ?_
  by_cases e:j=i
  ·subst e;rw[rf.unl] at hL;cases hL
  ·rcases Nat.lt_or_ge j i with hlt|hge
   ·exact hj1 j hlt hw
   ·have:=Yi c.ok ho hs hw (Ne.symm e)
    rw[Kj (Ne.symm e),Gx (by omega)] at this
    rw[rf.desc j hj this] at hL;cases hL
theorem RC.sput (c:RC P R ops ps F S RS V) (hi:i<ops.size) {a:Act} (hS:SI ops F V L r a) {o:Oper} (ho:ops[i]? =some o) {r':Rn} (hup:∀k p,r k=some p->r' k=some p) {v':Value} (hv:VR r' (V i) v'):SI ops F V (Lx L i) r' (a.put o.dst v'):=by
 have hw:Bf ops i=o.dst:=by unfold Bf;rw[ho];rfl
 have hdm:∀d,o.dst=some d->d<a.tmps.size:=fun d hd=>by
  obtain⟨o2,ho2,hp,_⟩:=c.step i hi
  rw[ho] at ho2;injection ho2 with ho2;subst ho2
  obtain⟨h1,h2,h3,h4⟩:=M3 hp
  rcases h4 with⟨e1,_⟩|⟨d',e1,hd',_⟩
  ·rw[hd] at e1;cases e1
  ·rw[hd] at e1;injection e1 with e1;subst e1
   rw[hS.size,<-(c.fm' i (by omega)).1];exact hd'
 have hkeep:∀s,o.dst≠some s->(a.put o.dst v').tmps.getD s undef=a.tmps.getD s undef:=fun s hs=>by
  cases hd:o.dst with
  |none=>rfl
  |some d=>exact Fu (fun e=>hs (by rw[hd,e]))
 refine⟨?_,fun j s hj hL hjs=> ?_,fun s hs=> ?_,?_⟩
 ·have:=hS.size
  cases hd:o.dst<;>simp[Act.put,this]
 ·by_cases e:j=i
  ·subst e
   have hd:o.dst=some s:=by rw[<-hw];exact hjs
   rw[hd,Gw (hdm s hd)];exact hv
  ·have hL':L j=true:=by unfold Lx at hL;rw[if_neg e] at hL;exact hL
   rw[hkeep s fun hd=>e (uniq_ok c.ok hjs (by rw[hw,hd]))]
   exact(hS.wr j s hj hL' hjs).mono hup
 ·rw[hkeep s fun hd=>hs i hi (by unfold Lx;rw[if_pos rfl]) (by rw[hw,hd])]
  refine(hS.un s fun j hj hL=>hs j hj ?_).mono hup
  unfold Lx;split
  ·rfl
  ·exact hL
 ·cases hd:o.dst<;>exact hS.mks.mono hup
def InvE (P:Program) (ops:Array Oper) (F:Nat->Fr) (S:Nat->St) (V:Nat->Value) (r0:Rn) (w0:World) (listed:Array Bool) (a:Act) (w:World):Prop:=
 listed.size=ops.size/\(∀i o,ops[i]? =some o->listed.getD i false=true->∀e∈o.after,Region.binds .any e=true->listed.getD e.on false=true)/\
 ∃r,HI P ops S r0 w0 (fun j=>listed.getD j false) r w/\SI ops F V (fun j=>listed.getD j false) r a
theorem RC.inv_step (c:RC P R ops ps F S RS V) (hR:Km P R) {ro:Option Nat} {n:Nat} {Q:Exit->Act->World->Prop} {listed:Array Bool} {a:Act} (hv:InvE P ops F S V r0 w0 listed a w) (hr:i∈Region.ready .any ops listed):
  wpOpIn (FO ro) n P ops Q i (InvE P ops F S V r0 w0 (listed.setIfInBounds i true)) a w:=by
 obtain⟨hls,down,r,hI,hS⟩:=hv
 obtain⟨hun,o,ho,hall⟩:=mem_ready.1 hr
 have hi:i<ops.size:=(Array.getElem?_eq_some_iff.1 ho).1
 have hil:i<listed.size:=by rw[hls];exact hi
 have hunf:=Co hil hun
 have rf:RF ops (fun j=>listed.getD j false) i:=by
  refine⟨hunf,fun k hk=> ?_,fun k hk hb=> ?_⟩
  ·refine anc_all (ops:=ops) (L:=fun j=>listed.getD j false) (fun j o h1 h2=>down j o h2 h1) i (fun o' ho'=> ?_) hk
   rw[ho] at ho';injection ho' with ho';subst ho';exact hall
  ·cases e:listed.getD k false with
   |false=>rfl
   |true=>
    have:=anc_all (ops:=ops) (L:=fun j=>listed.getD j false) (fun j o h1 h2=>down j o h2 h1) k (fun o' ho'=>down k o' ho' e) hb
    rw[show listed.getD i false=true from this] at hunf;cases hunf
 have hLx:(fun j=>(listed.setIfInBounds i true).getD j false)=Lx (fun j=>listed.getD j false) i:=by
  funext j
  unfold Lx
  by_cases e:j=i
  ·subst e;rw[if_pos rfl];simp[hil]
  ·rw[if_neg e,getD_set_ne false (Ne.symm e)]
 have down':∀j o,ops[j]? =some o->(listed.setIfInBounds i true).getD j false=true->∀e∈o.after,Region.binds .any e=true->(listed.setIfInBounds i true).getD e.on false=true:=by
  intro j o' hj hl e he hb
  refine getD_set_true ?_
  by_cases e':j=i
  ·subst e';rw[ho] at hj;injection hj with hj;subst hj;exact hall e he hb
  ·rw[getD_set_ne false (Ne.symm e')] at hl;exact down j o' hj hl e he hb
 have fin:∀r' v' w',(∀k p,r k=some p->r' k=some p)->VR r' (V i) v'->HI P ops S r0 w0 (Lx (fun j=>listed.getD j false) i) r' w'->InvE P ops F S V r0 w0 (listed.setIfInBounds i true) (a.put o.dst v') w':=fun r' v' w' h1 h2 h3=>
  ⟨by simp[hls],down',r',by rw[hLx];exact h3,by rw[hLx];exact c.sput hi hS ho h1 h2⟩
 have hslot:∀s∈o.looksAt ops,VR r ((F i).get s) (a.tmps.getD s undef):=fun s hs=>c.slot hi rf hS ho hs
 have hok2:Ro (S 0).ng ops=true:=by have:=c.ok;unfold okR at this;simp only[Bool.and_eq_true] at this;exact this.2
 have hρ:∀x∈o.op.operands,VR r ((F i).ev x) (a.eval x):=fun x hx=>by
  have hx2:=Uu hok2 (o:=o) (Array.mem_toList_iff.2 (Array.mem_of_getElem? ho)) hx
  cases x with
  |tmp t=>exact hslot t (by unfold Oper.looksAt;simp;exact .inl ⟨_,hx,rfl⟩)
  |const v=>exact .pln hx2
  |global g=>exact .ptr (hI.gl g (Gq hx2))
  |func f=>exact .pln rfl
 have hg:=Zc (ops:=ops) (fr:=F i) (o:=o) (a:=a) (r:=r) fun k want d h1 h2=>hslot d (by
  unfold Bf at h2
  simp[Oper.looksAt,h1,h2])
 unfold wpOpIn
 simp only[ho]
 rw[hg]
 obtain⟨o2,ho2,hp,hk⟩:=c.step i hi
 rw[ho] at ho2;injection ho2 with ho2;subst ho2
 rcases hk with⟨e1,e2,e3,e4⟩|⟨e1,e2,e3,e4,e5⟩|⟨e1,e2,q,e3,e4,e5⟩
 ·rw[e1,if_neg (by simp)]
  exact⟨fun _ _=>trivial,fin r undef w (fun _ _ h=>h) (by rw[e2];exact VR.undef) (c.pure' hI hi e3)⟩
 ·rw[e1,if_pos rfl]
  obtain⟨v',h1,h2⟩:=Zi e3 hρ
  refine op_in (K:=fun u w'=>u=v'/\w'=w) (fun cc hc=>by unfold Mn at e2;rw[hc] at e2;cases e2) (by rw[h2 w];exact⟨rfl,rfl⟩) ?_
  rintro u w' ⟨rfl,rfl⟩
  exact fin r u w' (fun _ _ h=>h) h1 (c.pure' hI hi e4)
 ·rw[e1,if_pos rfl]
  refine op_in (fun cc hc=> ?_) (c.third hR hI hi rf ⟨o,ho,e1,e2,q,e3,e4,e5⟩ e3 e4 hρ) ?_
  ·unfold execH at e3;rw[hc] at e3;cases e3
  ·rintro v' w' ⟨r',h1,h2,h3⟩
   exact fin r' v' w' h2 h1 h3
theorem RC.all (c:RC P R ops ps F S RS V) (hR:Km P R) {ro:Option Nat} {n:Nat} {Q:Exit->Act->World->Prop}
  (hQ:∀listed a w,InvE P ops F S V r0 w0 listed a w->(∀i,i<ops.size->listed.getD i false=true)->Q .normal a w):
  ∀(f:Nat) (listed:Array Bool) (a:Act) (w:World),InvE P ops F S V r0 w0 listed a w->listed.toList.count false=f->wpAnyIn (FO ro) n P .any ops Q f listed a w:=by
 have done:∀(listed:Array Bool) (a:Act) (w:World),InvE P ops F S V r0 w0 listed a w->Region.ready .any ops listed= []->Q .normal a w:=fun listed a w hv he=>by
  refine hQ listed a w hv fun i hi=> ?_
  cases e:listed.getD i false with
  |true=>rfl
  |false=>
   obtain⟨k,hk⟩:=least_rdy c.ok hv.1 i hi e
   rw[he] at hk;cases hk
 intro f
 induction f with
 |zero=>
  intro listed a w hv hcnt
  have hready:Region.ready .any ops listed= []:=by
   apply List.eq_nil_iff_forall_not_mem.2
   intro k hk
   obtain⟨h1,o,ho,_⟩:=mem_ready.1 hk
   have hk':=(Array.getElem?_eq_some_iff.1 ho).1
   have hk2:k<listed.size:=by rw[hv.1];exact hk'
   have hf:=Co hk2 h1
   have:false∈listed.toList:=by
    have e:listed[k]=false:=by simpa [hk2] using hf
    rw[<-e];exact Array.mem_toList_iff.2 (Array.getElem_mem hk2)
   exact absurd hcnt (by have:=List.count_pos_iff.2 this;omega)
  exact⟨hready,done listed a w hv hready⟩
 |succ f ih=>
  intro listed a w hv hcnt
  refine⟨fun he=>done listed a w hv he,fun i hi=> ?_⟩
  refine wpOpIn_mono (fun a' w' hv'=>ih _ a' w' hv' ?_) (c.inv_step hR hv hi)
  obtain⟨hun,o,ho,_⟩:=mem_ready.1 hi
  have his:i<listed.size:=by rw[hv.1];exact(Array.getElem?_eq_some_iff.1 ho).1
  have hunf:=Co his hun
  have hg:listed.toList[i]? =some false:=by simp[his] at hunf;simp[his,hunf]
  have:=Hm listed.toList i hg
  rw[Array.toList_setIfInBounds];omega
end
theorem regB_ok {P:Program} {R:Rec} {B:Nat} (hf:P.follows .mixedOrders=true) (hM:RM R) (hR:Km P R) {id:Nat} {ops:Array Oper} {draw:Bool} {ro:Option Nat} {n:Nat} {Q:Exit->Act->World->Prop} {fr fr':Fr} {s s':St} {r:Rn} {w:World} {a:Act}
  (h:regB P R ops draw fr s=some (fr',s')) (hB:s'.next<=B) (hr:Rel P B r s w) (hfr:FrR r fr a) (hQ:∀r' a' w',FrR r' fr' a'->Dl P B s s' r r' w w'->Q .normal a' w'):(Code.region id ops draw).wpIn (FO ro) n P Q a w:=by
 have h0:=h
 unfold regB at h
 cases draw with
 |false=>
  obtain⟨hok,h⟩:=Bh (show (bif Ro s.ng ops then seqB P R ops ops.toList fr s else none)=some (fr',s') from h)
  exact wpIn_region_list (Vw hM hR hok ops.toList fr fr' s s' r w a rfl (fun o ho=>ho) h hB hr hfr hQ)
 |true=>
  obtain⟨hok,h⟩:=Bh (show (bif okR s.ng ops then _ else none)=some (fr',s') from h)
  obtain⟨hap,h⟩:=Bh h
  obtain⟨F,S,RS,V,f0,s0,rs0,fN,sN,hst⟩:=Vh ops.toList 0 [] fr fr' s s' (by simp) h
  simp only[Nat.zero_add,Array.length_toList] at fN sN hst
  have c:RC P R ops _ F S RS V:=⟨hM,fun k hk=>hst k (Nat.zero_le _) hk,rs0,by rw[s0];exact hok,by rw[s0];exact hap,by rw[s0];exact hr.nb,by rw[s0];exact hr.up,by rw[s0];exact hr.hlt,by rw[f0];exact hfr.1.2.1,by rw[s0];exact hr.gn⟩
  have hmono:=(regB_mb hM h0).1 hr.nb
  refine wpIn_region_any hf (c.all hR (r0:=r) (w0:=w) (fun listed a' w' hv hall=> ?_) _ _ _ _ ⟨by simp,(fun i o ho hl=>by rw[getD_replicate_false] at hl;cases hl),r,?_,?_⟩ (by simp))
  ·obtain⟨hls,_,r',hI,hS⟩:=hv
   have hv:∀id,vw S (fun j=>listed.getD j false) id ops.size=s'.T.get id:=fun id=>by rw[Nm ops.size fun k hk _=>hall k hk,sN]
   have hh:s'.hid=s.hid:=hmono.1.hid
   have hget:∀id,s'.get id=if A4 s.hid id=true then none else s'.T.get id:=fun id=>by rw[Jm,hh]
   refine hQ r' a' w' ⟨⟨?_,?_,fun t=> ?_⟩,?_⟩ ⟨hmono.1,⟨fun k hk=> ?_,hI.size,hI.os,hI.tape,hI.output,fun b hb H=> ?_,fun k b x h1 h2 h3=> ?_⟩,⟨hmono.2,hB,fun k h1 h2=> ?_,fun k o hk=> ?_,fun k k' b x x' h1 h2 h3 h4=> ?_,hmono.1.up hr.up,fun k hk=> ?_,fun g hg=>hI.gl g (by rw[s0,<-hmono.1.ng];exact hg),by rw[hmono.1.ng];exact Nat.le_trans hr.gn hmono.1.next⟩⟩
   ·rw[hS.size,<-fN,(c.fm' ops.size (Nat.le_refl _)).1]
   ·rw[<-fN,(c.fm' ops.size (Nat.le_refl _)).1];exact c.fm
   ·have:=c.fget t ops.size (Nat.le_refl _)
    rw[fN] at this
    rcases this with⟨j,hj,hj1,hj2⟩|⟨hj1,hj2⟩
    ·show VR r' (fr'.get t) _
     rw[hj2];exact hS.wr j t hj (hall j hj) hj1
    ·show VR r' (fr'.get t) _
     rw[hj2];exact hS.un t fun j hj _=>hj1 j hj
   ·have:=hS.mks
    rw[<-(c.fm' ops.size (Nat.le_refl _)).2.1,fN] at this
    exact this
   ·exact hI.rr k (by rw[s0,sN];exact hk)
   ·exact hI.frame b hb (by rw[s0];exact H)
   ·have:=hI.new k b x (by rw[s0];exact h1) ?_ ?_ h3
    ·rw[s0] at this;exact this
    ·rw[s0]
     cases e:A4 s.hid k with
     |false=>rfl
     |true=>rw[hget,e] at h2;exact absurd rfl h2
    ·rw[hv]
     rw[hget] at h2
     split at h2
     ·exact absurd rfl h2
     ·exact h2
   ·rw[hI.rr k (.inr (by rw[sN];exact h1))]
    exact hr.dom k (Nat.le_trans hmono.1.next h1) h2
   ·rw[hget] at hk
    split at hk
    ·cases hk
    ·rename_i e
     exact hI.obj k o (by rw[s0];simpa using e) (by rw[hv];exact hk)
   ·rw[hget] at h1 h2
    split at h1
    ·exact absurd rfl h1
    ·rename_i e1
     split at h2
     ·exact absurd rfl h2
     ·rename_i e2
      exact hI.inj k k' b x x' (by rw[s0];simpa using e1) (by rw[s0];simpa using e2) (by rw[hv];exact h1) (by rw[hv];exact h2) h3 h4
   ·rw[hh] at hk
    exact Nat.lt_of_lt_of_le (hr.hlt k hk) hmono.1.next
  ·have hv:∀id,vw S (fun j=>(Array.replicate ops.size false).getD j false) id ops.size=s.T.get id:=fun id=>by
    rw[Nl ops.size (i:=0) (Nat.zero_le _) fun k _ _ _=>getD_replicate_false _ _]
    show (S 0).T.get id=_
    rw[s0]
   refine⟨fun id o h1 h2=> ?_,fun id id' b x x' h1 h2 h3 h4 h5 h6=> ?_,fun j hj _ k h1 h2=> ?_,fun _ _=>rfl,Nat.le_refl _,rfl,rfl,rfl,fun _ _ _=>rfl,fun k b x h1 h2 h3 h4=> ?_,fun g hg=>hr.gl g (by rw[s0] at hg;exact hg)⟩
   ·rw[s0] at h1
    rw[hv] at h2
    exact hr.obj id o (by rw[Jm,h1];exact h2)
   ·rw[s0] at h1 h2
    rw[hv] at h3 h4
    exact hr.inj id id' b x x' (by rw[Jm,h1];exact h3) (by rw[Jm,h2];exact h4) h5 h6
   ·refine hr.dom k ?_ ?_
    ·have:=(c.mono j (Nat.zero_le _) (by omega)).next;rw[s0] at this;omega
    ·have:=(c.mono ops.size (show j+1<=ops.size by omega) (Nat.le_refl _)).next;rw[sN] at this;omega
   ·rw[s0] at h1
    rw[hv] at h3
    exact absurd (hr.up k h1) h3
  ·refine⟨by rw[f0];exact hfr.1.1,(fun j t hj hl=>by rw[getD_replicate_false] at hl;cases hl),(fun t _=>by rw[f0];exact hfr.1.2.2 t),by rw[f0];exact hfr.2⟩
set_option maxRecDepth 100000
section
variable {P:Program} {R:Rec} {fr fr':Fr} {s s':St} {e:Exit} {v:Value}
def EntB (fr:Fr) (s:St) (d:Nat) (mk:List Nat) (s1:St):Prop:=
 (fr.round=none/\s.new (.dfr true)=some (d,s1)/\mk= [d])∨
 (∃l a b c m ps asg body,fr.round=some l/\s.get l=some (.loop a b c m ps asg body d)/\mk= []/\s1=s)
theorem rangeB {f:Operand} {ps:Array Tmp} {asg body:Code} (h:stepCode P R (.rangeFunc f ps asg body) fr s=some (e,fr',s')):Uv s.ng f=true/\Mc P (fr.ev f)=true/\∃d mk s1 l s2 v s3 st pend t m ps' asg' body' d',EntB fr s d mk s1/\s1.new (.loop .ready none fr.t fr.m ps asg body d)=some (l,s2)/\
  callV R (fr.ev f) [.func (.yield l) #[] #[]] s2=some (v,s3)/\s3.get l=some (.loop st pend t m ps' asg' body' d')/\st≠ .busy/\s3.put l (some (.loop .exhausted pend t m ps' asg' body' d'))=some s'/\fr'= {fr with marks:=mk++fr.marks}/\
  ((pend=none/\e= .normal)∨(pend=some .ret/\e= .ret)∨∃k,pend=some (.exit k)/\e= .exit k):=by
 unfold stepCode at h
 simp only at h
 obtain⟨hok,h⟩:=Bh h
 rw[Bool.and_eq_true] at hok
 refine⟨hok.1,hok.2,?_⟩
 split at h
 ·cases h
 rename_i d mk s1 hent
 have hE:EntB fr s d mk s1:=by
  split at hent
  ·rename_i l hl
   split at hent
   ·rename_i a b c m ps asg body d' hg
    injection hent with hent;injection hent with e1 e2;injection e2 with e2 e3
    subst e1;subst e2;subst e3
    exact .inr ⟨l,_,_,_,_,_,_,_,hl,hg,rfl,rfl⟩
   ·cases hent
  ·rename_i hl
   obtain⟨k,t1,h1,h2⟩:=Wg hent
   injection h2 with e1 e2;injection e2 with e2 e3
   subst e1;subst e2;subst e3
   exact .inl ⟨hl,h1,rfl⟩
 split at h
 ·cases h
 rename_i l s2 hn
 split at h
 ·cases h
 rename_i v s3 hc
 split at h
 ·rename_i st pend t m ps' asg' body' d' hg
  split at h
  ·cases h
  rename_i hne
  have hb:st≠ .busy:=hne
  split at h
  ·cases h
  rename_i s4 hp
  refine⟨d,mk,s1,l,s2,v,s3,st,pend,t,m,ps',asg',body',d',hE,hn,hc,hg,hb,?_⟩
  split at h
  ·injection h with h;injection h with e1 e2;injection e2 with e2 e3
   subst e3
   exact⟨hp,e2.symm,.inl ⟨rfl,e1.symm⟩⟩
  ·injection h with h;injection h with e1 e2;injection e2 with e2 e3
   subst e3
   exact⟨hp,e2.symm,.inr (.inl ⟨rfl,e1.symm⟩)⟩
  ·injection h with h;injection h with e1 e2;injection e2 with e2 e3
   subst e3
   exact⟨hp,e2.symm,.inr (.inr ⟨_,rfl,e1.symm⟩)⟩
  ·cases h
 ·cases h
theorem EntB.mb {d:Nat} {mk:List Nat} {s1:St} (h:EntB fr s d mk s1):MB s s1:=by
 rcases h with⟨_,h,_⟩|⟨_,_,_,_,_,_,_,_,_,_,_,rfl⟩
 ·exact M6 h
 ·exact MB.refl _
theorem Xz (hR:RM R) {c:Code} (h:stepCode P R c fr s=some (e,fr',s')):MB s s'/\fr'.round=fr.round/\fr'.m=fr.m:=by
 have refl:some (e,fr',s')=some (e,fr,s)->MB s s'/\fr'.round=fr.round/\fr'.m=fr.m:=by
  rintro h;injection h with h;injection h with _ h;injection h with h1 h2;subst h1;subst h2;exact⟨MB.refl _,rfl,rfl⟩
 have tr:∀ {c1 c2:Code} {e1 fr1 s1},R.code c1 fr s=some (e1,fr1,s1)->R.code c2 fr1 s1=some (e,fr',s')->MB s s'/\fr'.round=fr.round/\fr'.m=fr.m:=by
  intro c1 c2 e1 fr1 s1 h1 h2
  obtain⟨a1,a2,a3⟩:=hR.code _ _ _ _ _ _ h1
  obtain⟨b1,b2,b3⟩:=hR.code _ _ _ _ _ _ h2
  exact⟨a1.trans b1,b2.trans a2,b3.trans a3⟩
 cases c with
 |rangeFunc f ps asg body=>
  obtain⟨_,_,d,mk,s1,l,s2,v,s3,st,pend,t,m,ps',asg',body',d',h1,h2,h3,h4,_,h5,rfl,_⟩:=rangeB h
  exact⟨((h1.mb.trans (M6 h2)).trans (Si hR h3)).trans (Hs h4 h5),rfl,rfl⟩
 |region id ops draw=>
  unfold stepCode at h
  simp only[Option.map_eq_some_iff,Prod.mk.injEq] at h
  obtain⟨q,hq,_,rfl,rfl⟩:=h
  obtain⟨h1,h2⟩:=regB_mb hR (fr':=q.1) (s':=q.2) hq
  exact⟨h1,h2.1,h2.2.1⟩
 |seq a b=>
  unfold stepCode at h
  simp only at h
  split at h
  ·rename_i hq;exact tr hq h
  ·exact hR.code _ _ _ _ _ _ h
 |loop b=>
  unfold stepCode at h
  simp only at h
  split at h
  ·rename_i hq;exact tr hq h
  ·exact hR.code _ _ _ _ _ _ h
 |block id b=>
  unfold stepCode at h
  simp only at h
  split at h
  ·rename_i k fr1 s1 hq
   have:=hR.code _ _ _ _ _ _ hq
   rcases D1 h with⟨_,h⟩|⟨_,h⟩<;>(injection h with h;injection h with _ h;injection h with h1 h2;subst h1;subst h2;exact this)
  ·exact hR.code _ _ _ _ _ _ h
 |cond c a b=>
  unfold stepCode at h
  simp only at h
  have h:=(Bh h).2
  split at h
  ·rcases D1 h with⟨_,h⟩|⟨_,h⟩<;>exact hR.code _ _ _ _ _ _ h
  ·cases h
 |scope b=>
  unfold stepCode at h
  simp only at h
  split at h
  ·exact hR.back _ _ _ _ _ _ _ h
  ·cases h
 |skip=>exact refl (by unfold stepCode at h;simp only at h;injection h with h;injection h with h1 h2;injection h2 with h2 h3;subst h1;subst h2;subst h3;rfl)
 |label l=>exact refl (by unfold stepCode at h;simp only at h;injection h with h;injection h with h1 h2;injection h2 with h2 h3;subst h1;subst h2;subst h3;rfl)
 |exit l=>exact refl (by unfold stepCode at h;simp only at h;injection h with h;injection h with h1 h2;injection h2 with h2 h3;subst h1;subst h2;subst h3;rfl)
 |goto l=>exact refl (by unfold stepCode at h;simp only at h;injection h with h;injection h with h1 h2;injection h2 with h2 h3;subst h1;subst h2;subst h3;rfl)
 |ret=>exact refl (by unfold stepCode at h;simp only at h;injection h with h;injection h with h1 h2;injection h2 with h2 h3;subst h1;subst h2;subst h3;rfl)
 |_=>unfold stepCode at h;cases h
def tupV:List Value->Value
 | [v]=>v
 |vs=> .tuple vs.toArray
theorem tupB :∀vs:List Value,(∀u,vs= [u]->False)->Value.tuple vs.toArray=tupV vs
 | [],_=>rfl
 | [u],h=>(h u rfl).elim
 |_::_::_,_=>rfl
theorem callB {f:FuncId} {args:List Value} {O:Orc} (h:stepCall P O R f args s=some (v,s')):O f args s=some (v,s')∨∃fn,P.funcs[f]? =some fn/\(fn.name== "runtime.NumGoroutine")=false/\
  ((fn.body=none/\pls args=true/\pv P (callFunc f args.toArray)=some (.value v)/\pl v=true/\s'=s)∨
   ∃c e fr s1 vs,fn.body=some c/\args.length<=fn.ntmps/\fn.ntmps<=big/\R.code c ⟨putAll args 0 .nil,fn.ntmps,[],none⟩ s=some (e,fr,s1)/\(e= .normal∨e= .ret)/\takeMarks fr.marks s1=some s'/\resB P s' fr fn.results.toList=some vs/\v=tupV vs):=by
 unfold stepCall at h
 split at h
 ·rename_i u hu
  injection h with h;subst h
  exact .inl hu
 refine .inr ?_
 split at h
 ·cases h
 rename_i fn hfn
 rcases D1 h with⟨_,h⟩|⟨hn,h⟩
 ·cases h
 refine⟨fn,hfn,hn,?_⟩
 split at h
 ·rename_i hb
  obtain⟨hp,h⟩:=Bh h
  split at h
  ·rename_i u hu
   obtain⟨hpl,h⟩:=Bh h
   injection h with h;injection h with h1 h2;subst h1;subst h2
   exact .inl ⟨hb,hp,hu,hpl,rfl⟩
  ·cases h
 ·rename_i c hb
  obtain⟨hle,h⟩:=Bh h
  simp only[Bool.and_eq_true,Nat.ble_eq] at hle
  refine .inr ?_
  split at h
  ·rename_i e fr s1 hc
   have h2:(e= .normal∨e= .ret)/\(match takeMarks fr.marks s1 with
     |none=>none
     |some st=>match resB P st fr fn.results.toList with
      |some [v]=>some (v,st)
      |some vs=>some (Value.tuple vs.toArray,st)
      |none=>none)=some (v,s'):=by
    split at h
    ·exact⟨.inl rfl,h⟩
    ·exact⟨.inr rfl,h⟩
    ·cases h
   obtain⟨he,h⟩:=h2
   split at h
   ·cases h
   rename_i s2 ht
   split at h
   ·rename_i u hu
    injection h with h;injection h with h1 h2;subst h1;subst h2
    exact⟨c,e,fr,s1,_,hb,hle.1,hle.2,hc,he,ht,hu,rfl⟩
   ·rename_i vs hne hu
    injection h with h;injection h with h1 h2;subst h1;subst h2
    refine⟨c,e,fr,s1,vs,hb,hle.1,hle.2,hc,he,ht,hu,tupB vs hne⟩
   ·cases h
  ·cases h
theorem X0 {O:Orc} (hO:∀f args s v s',O f args s=some (v,s')->MB s s') (hR:RM R) {f:FuncId} {args:List Value} (h:stepCall P O R f args s=some (v,s')):MB s s':=by
 rcases callB h with h|⟨fn,_,_,h⟩
 ·exact hO _ _ _ _ _ h
 rcases h with⟨_,_,_,_,rfl⟩|⟨c,e,fr,s1,vs,_,_,_,h1,_,h2,_⟩
 ·exact MB.refl _
 ·exact(hR.code _ _ _ _ _ _ h1).1.trans (J5 _ _ _ h2)
def Wj:Exit->Option (Option Code)
 | .normal=>some none
 | .ret=>some (some .ret)
 | .exit k=>some (some (.exit k))
 |_=>none
theorem yieldB {l:Nat} {args:List Value} (h:stepYield P R l args s=some (v,s')):∃pend t m ps asg body d t' fr1 s1 pend2 t2 m2 ps2 asg2 body2 d2 s2 e fr3 s3 st3 pend3 t3 m3 ps3 asg3 body3 d3 jump,s.get l=some (.loop .ready pend t m ps asg body d)/\args.length=ps.size/\putPar m (ps.toList.zip args) t=some t'/\
  R.code asg ⟨t',m,[],some l⟩ s=some (.normal,fr1,s1)/\s1.get l=some (.loop .ready pend2 t2 m2 ps2 asg2 body2 d2)/\s1.put l (some (.loop .busy pend2 t2 m2 ps2 asg2 body2 d2))=some s2/\R.code body fr1 s2=some (e,fr3,s3)/\
  s3.get l=some (.loop st3 pend3 t3 m3 ps3 asg3 body3 d3)/\Wj e=some jump/\s3.put l (some (.loop (bif jump.isNone then .ready else .done) jump t3 m3 ps3 asg3 body3 d3))=some s'/\v= .bool jump.isNone:=by
 unfold stepYield at h
 split at h
 ·rename_i pend t m ps asg body d hg
  obtain⟨hl,h⟩:=Bh h
  have hl:=Nat.eq_of_beq_eq_true hl
  split at h
  ·cases h
  rename_i t' ht
  split at h
  ·rename_i fr1 s1 hc
   split at h
   ·rename_i pend2 t2 m2 ps2 asg2 body2 d2 hg2
    split at h
    ·cases h
    rename_i s2 hp
    split at h
    ·cases h
    rename_i e fr3 s3 hb
    split at h
    ·rename_i st3 pend3 t3 m3 ps3 asg3 body3 d3 jump hg3 hj
     simp only[Option.map_eq_some_iff,Prod.mk.injEq] at h
     obtain⟨s4,hp4,e1,e2⟩:=h
     subst e2
     refine⟨pend,t,m,ps,asg,body,d,t',fr1,s1,pend2,t2,m2,ps2,asg2,body2,d2,s2,e,fr3,s3,st3,pend3,t3,m3,ps3,asg3,body3,d3,jump,hg,hl,ht,hc,hg2,hp,hb,hg3,?_,hp4,e1.symm⟩
     cases e<;>first|exact hj|(simp at hj;done)|(cases hj;done)|(unfold Wj;exact hj)
    ·cases h
   ·cases h
  ·cases h
 ·cases h
theorem Vq (hR:RM R) {l:Nat} {args:List Value} (h:stepYield P R l args s=some (v,s')):MB s s':=by
 obtain⟨pend,t,m,ps,asg,body,d,t',fr1,s1,pend2,t2,m2,ps2,asg2,body2,d2,s2,e,fr3,s3,st3,pend3,t3,m3,ps3,asg3,body3,d3,jump,_,_,_,h1,h2,h3,h4,h5,_,h6,_⟩:=yieldB h
 exact(((hR.code _ _ _ _ _ _ h1).1.trans (Hs h2 h3)).trans (hR.code _ _ _ _ _ _ h4).1).trans (Hs h5 h6)
theorem X1 (hR:RM R) {b c:Code} (h:stepBack R b c fr s=some (e,fr',s')):MB s s'/\fr'.round=fr.round/\fr'.m=fr.m:=by
 unfold stepBack at h
 split at h
 ·rename_i l fr1 s1 hq
  obtain⟨a1,a2,a3⟩:=hR.code _ _ _ _ _ _ hq
  split at h
  ·obtain⟨b1,b2,b3⟩:=hR.back _ _ _ _ _ _ _ h
   exact⟨a1.trans b1,b2.trans a2,b3.trans a3⟩
  ·injection h with h;injection h with h1 h2;injection h2 with h2 h3;subst h1;subst h2;subst h3
   exact⟨a1,a2,a3⟩
 ·exact hR.code _ _ _ _ _ _ h
theorem step_rm {O:Orc} (hO:∀f args s v s',O f args s=some (v,s')->MB s s') (hR:RM R):RM ⟨stepCode P R,stepCall P O R,stepYield P R,stepBack R⟩:=
 ⟨fun _ _ _ _ _ _ h=>Xz hR h,fun _ _ _ _ _ h=>X0 hO hR h,fun _ _ _ _ _ h=>Vq (P:=P) hR h,fun _ _ _ _ _ _ _ h=>X1 hR h⟩
end
set_option maxRecDepth 100000
def RoR (r:Rn):Option Nat->Option Nat->Prop
 |none,none=>True
 |some l,some b=>∃x,r l=some (b,x)
 |_,_=>False
theorem RoR.mono {r r':Rn} (hr:∀k p,r k=some p->r' k=some p):∀ {x y:Option Nat},RoR r x y->RoR r' x y
 |none,none,_=>trivial
 |some _,some _,⟨x,h⟩=>⟨x,hr _ _ h⟩
structure Vl (P:Program) (O:Orc):Prop where
 mb:∀f args s v s',O f args s=some (v,s')->MB s s'
 ok:∀f args s v s',O f args s=some (v,s')->∀B r w args',Rel P B r s w->s'.next<=B->LR r args args'->Ky P (Res P B s s' r w v) ((callFunc f args'.toArray).run P w)
def S4 (P:Program) (fr:Fr) (s:St) (e:Exit) (fr':Fr) (s':St) (W:Option Nat->Nat->(Exit->Act->World->Prop)->Act->World->Prop):Prop:=
 ∀(B:Nat) (r:Rn) (w:World) (a:Act) (ro:Option Nat) (n:Nat) (Q:Exit->Act->World->Prop),Rel P B r s w->s'.next<=B->FrR r fr a->RoR r fr.round ro->(∀r' a' w',FrR r' fr' a'->Dl P B s s' r r' w w'->Q e a' w')->W ro n Q a w
def InSc (P:Program) (b c:Code) (Q:Exit->Act->World->Prop) (a:Act) (w:World):Prop:=
 ∀(f:Frame) (k:List Item) (cs:List Frame),∃e a' w',Q e a' w'/\Arrives P (lone (f.at a (.code c:: .inScope b::k)) cs w) f k cs e a' w'
structure Kl (P:Program) (R:Rec):Prop extends Km P R where
 code:∀c fr s e fr' s',R.code c fr s=some (e,fr',s')->S4 P fr s e fr' s' fun ro n Q a w=>c.wpIn (FO ro) n P Q a w
 back:∀b c fr s e fr' s',R.back b c fr s=some (e,fr',s')->fr.round=none->S4 P fr s e fr' s' fun _ _ Q a w=>InSc P b c Q a w
 loop:∀c fr s e fr' s',R.code (.loop c) fr s=some (e,fr',s')->∃m,S4 P fr s e fr' s' fun ro n Q a w=>Code.roundsIn (FO ro) n P c Q m a w
section
variable {P:Program} {R:Rec} {B:Nat} {r:Rn} {fr fr':Fr} {s s':St} {e:Exit} {v:Value} {w:World} {a:Act} {ro:Option Nat}
theorem Dv {α:Type}:∀x:Sem α,x.bind Sem.pure=x
 | .pure a=>rfl
 | .load m a k=>congrArg (Sem.load m a) (funext fun v=>Dv (k v))
 | .store m a v k=>congrArg (Sem.store m a v) (Dv k)
 | .new o k=>congrArg (Sem.new o) (funext fun v=>Dv (k v))
 | .shape r k=>congrArg (Sem.shape r) (funext fun v=>Dv (k v))
 | .freeze a n k=>congrArg (Sem.freeze a n) (Dv k)
 | .frozen a k=>congrArg (Sem.frozen a) (funext fun v=>Dv (k v))
 | .getObj r k=>congrArg (Sem.getObj r) (funext fun v=>Dv (k v))
 | .setObj r o k=>congrArg (Sem.setObj r o) (Dv k)
 | .choose q k=>congrArg (Sem.choose q) (funext fun v=>Dv (k v))
 | .sys c k=>congrArg (Sem.sys c) (funext fun v=>Dv (k v))
 | .program k=>congrArg Sem.program (funext fun v=>Dv (k v))
 | .mark m k=>congrArg (Sem.mark m) (Dv k)
 | .halt h=>rfl
theorem Df {α β γ:Type} (f:α->Sem β) (g:β->Sem γ):∀x:Sem α,(x.bind f).bind g=x.bind fun a=>(f a).bind g
 | .pure a=>rfl
 | .load m a k=>congrArg (Sem.load m a) (funext fun v=>Df f g (k v))
 | .store m a v k=>congrArg (Sem.store m a v) (Df f g k)
 | .new o k=>congrArg (Sem.new o) (funext fun v=>Df f g (k v))
 | .shape r k=>congrArg (Sem.shape r) (funext fun v=>Df f g (k v))
 | .freeze a n k=>congrArg (Sem.freeze a n) (Df f g k)
 | .frozen a k=>congrArg (Sem.frozen a) (funext fun v=>Df f g (k v))
 | .getObj r k=>congrArg (Sem.getObj r) (funext fun v=>Df f g (k v))
 | .setObj r o k=>congrArg (Sem.setObj r o) (Df f g k)
 | .choose q k=>congrArg (Sem.choose q) (funext fun v=>Df f g (k v))
 | .sys c k=>congrArg (Sem.sys c) (funext fun v=>Df f g (k v))
 | .program k=>congrArg Sem.program (funext fun v=>Df f g (k v))
 | .mark m k=>congrArg (Sem.mark m) (Df f g k)
 | .halt h=>rfl
theorem semLaw :LawfulMonad Sem:=LawfulMonad.mk' Sem (fun x=>Dv x) (fun _ _=>rfl) (fun x f g=>Df f g x)
theorem MB.nx (h:MB s s') (hb:s.next<=big):s.next<=s'.next:=(h hb).1.next
theorem Rel.at_loop (h:Rel P B r s w) {l b x:Nat} {st:LoopState} {pend:Option Code} {t:Tr Value} {m:Nat} {ps:Array Tmp} {asg body:Code} {d:Nat} (hg:s.get l=some (.loop st pend t m ps asg body d)) (hr:r l=some (b,x)):
  ∃fn tm d' y,w.heap[b]? =some (.loop {state:=st,pending:=pend,fn:=fn,tmps:=tm,params:=ps,assign:=asg,body:=body,defers:=d'})/\r d=some (d',y)/\SlR r t m tm:=by
 obtain⟨b',x',o',h1,h2,fn,tm,d',y,h3,h4,h5⟩:=h.obj _ _ hg
 rw[hr] at h1;injection h1 with h1;injection h1 with e1 e2
 subst e1;subst h3
 exact⟨fn,tm,d',y,h2,h4,h5⟩
theorem Rg (h:Rel P B r s w) {l b x:Nat} {st st2:LoopState} {pend pend2:Option Code} {t:Tr Value} {m:Nat} {ps:Array Tmp} {asg body:Code} {d:Nat} (hg:s.get l=some (.loop st pend t m ps asg body d)) (hp:s.put l (some (.loop st2 pend2 t m ps asg body d))=some s') (hr:r l=some (b,x))
  {fn:FuncId} {tm:Array Value} {d' y:Nat} (hw:w.heap[b]? =some (.loop {state:=st,pending:=pend,fn:=fn,tmps:=tm,params:=ps,assign:=asg,body:=body,defers:=d'})) (hd:r d=some (d',y)) (ht:SlR r t m tm):
  Dl P B s s' r r w (w.putObj b (.loop {state:=st2,pending:=pend2,fn:=fn,tmps:=tm,params:=ps,assign:=asg,body:=body,defers:=d'})):=
 Rf h hp hg hr (Qg.obj _ (Array.getElem?_eq_some_iff.1 hw).1) ⟨fn,tm,d',y,rfl,hd,ht⟩
theorem ent_ok {d:Nat} {mk:List Nat} {s1 s2:St} {l:Nat} {ps:Array Tmp} {asg body:Code} (hE:EntB fr s d mk s1) (hn:s1.new (.loop .ready none fr.t fr.m ps asg body d)=some (l,s2)) (hB:s2.next<=B) (h:Rel P B r s w) (hf:FrR r fr a) (ho:RoR r fr.round ro) (fn:FuncId):
  ∃lb mark w2 r2 x,(Instr.enterLoop fn a.tmps ps asg body ro).run P w= .ok (lb,mark) w2/\Dl P B s s2 r r2 w w2/\r2 l=some (lb,x)/\FrR r2 {fr with marks:=mk++fr.marks} {a with defers:=mark++a.defers}:=by
 rcases hE with⟨hro,hd,rfl⟩|⟨l0,st,pend,t,m,ps0,asg0,body0,hro,hg,rfl,rfl⟩
 ·rw[hro] at ho
  cases ro with
  |some _=>cases ho
  |none=>
  have hB1:s1.next<=B:=Nat.le_trans ((M6 hn).nx ((M6 hd) h.nb).2) hB
  have g1:=G6 h hB1 hd (Fv.alloc w (.deferred (some []))) (x:=0) rfl
  have hk:upd r d (w.heap.size,0) d=some (w.heap.size,0):=Cg _ _ _
  have hup1:=g1.up h
  have hsz:(w.alloc (.deferred (some []))).heap.size=w.heap.size+1:=World.size_alloc _ _
  have hne:d≠l:=by
   obtain⟨_,e1,e2⟩:=D4 hd
   obtain⟨_,e3,_⟩:=D4 hn
   rw[e1,e3,e2];exact Nat.ne_of_lt (Nat.lt_succ_self _)
  have g2:=G6 g1.rel hB hn (Fv.alloc (w.alloc (.deferred (some []))) (.loop {state:= .ready,pending:=none,fn:=fn,tmps:=a.tmps,params:=ps,assign:=asg,body:=body,defers:=w.heap.size})) (x:=0) (by
   refine⟨fn,a.tmps,w.heap.size,0,rfl,?_,?_⟩
   ·rw[Dk hne];exact hk
   ·refine(hf.1.mono hup1).mono fun k p hkp=> ?_
    by_cases e:k=l
    ·subst e
     have:=(g1.rel).fresh hn hB
     rw[this] at hkp;cases hkp
    ·rw[Dk e];exact hkp)
  rw[hsz] at g2
  refine⟨_,_,_,_,0,run_enterLoop_outer _ _ _ _ _,g1.trans g2,Cg _ _ _,?_,?_⟩
  ·exact(hf.1.mono hup1).mono (g2.up g1.rel)
  ·have hm:=(hf.2.mono hup1).mono (g2.up g1.rel)
   refine⟨by simp[hm.1],fun i k hi=> ?_⟩
   cases i with
   |zero=>
    simp at hi;subst hi
    exact⟨w.heap.size,0,by rw[Dk hne];exact hk,by simp⟩
   |succ i=>
    have hi:fr.marks[i]? =some k:=by simpa using hi
    obtain⟨b,x,h1,h2⟩:=hm.2 i k hi
    exact⟨b,x,h1,by simpa using h2⟩
 ·rw[hro] at ho
  cases ro with
  |none=>cases ho
  |some b0=>
  obtain⟨x0,hr0⟩:=ho
  obtain⟨fn0,tm0,d',y,h1,h2,h3⟩:=h.at_loop hg hr0
  have hup:∀k p,r k=some p->upd r l (w.heap.size,0) k=some p:=fun k p hkp=>by
   by_cases e:k=l
   ·subst e
    have:=h.fresh hn hB
    rw[this] at hkp;cases hkp
   ·rw[Dk e];exact hkp
  have g:=G6 h hB hn (Fv.alloc w (.loop {state:= .ready,pending:=none,fn:=fn,tmps:=a.tmps,params:=ps,assign:=asg,body:=body,defers:=d'})) (x:=0) ⟨fn,a.tmps,d',y,rfl,hup _ _ h2,hf.1.mono hup⟩
  exact⟨_,_,_,_,0,run_enterLoop_inner h1 _ _ _ _ _,g,Cg _ _ _,hf.1.mono hup,hf.2.mono hup⟩
theorem Uk {m:Nat}:∀ {l:List Tmp} {zs zs':List Value} {t t':Tr Value} {tm:Array Value},zs.length=l.length->LR r zs zs'->SlR r t m tm->putPar m (l.zip zs) t=some t'->SlR r t' m ((l.zip zs').foldl (fun tmps p=>tmps.setIfInBounds p.1 p.2) tm)
 | [],_,_,t,t',tm,_,_,hs,h=>by
  simp only[List.zip_nil_left,putPar] at h⊢
  injection h with h;subst h;exact hs
 |d::l,[],_,_,_,_,hl,_,_,_=>by simp at hl
 |d::l,v::zs,zs',t,t',tm,hl,ha,hs,h=>by
  obtain⟨v',q,rfl,h1,h2⟩:=ha.uncons
  simp only[List.zip_cons_cons,putPar] at h⊢
  obtain⟨hd,h⟩:=Bh h
  exact Uk (by simpa using hl) h2 (hs.put (Gq hd) h1) h
theorem Vy {l:Nat} {K:Ending->World->Prop} {jump:Option Code} (hj:Wj e=some jump) (h:∃v w',(Instr.endRound l jump).run P w= .ok v w'/\K (.returned v) w'):roundPost P l K e a w:=by
 cases e<;>simp[Wj] at hj<;>subst hj<;>exact h
theorem Y1 {fn:Func} {tm:Array Value} {K:Ending->World->Prop} {n:Nat}:∀ {ms:List Nat} {ds:List Deferred} {s:St} {w:World},MkR r ms ds->takeMarks ms s=some s'->Rel P B r s w->(∀w',Dl P B s s' r r w w'->LeavesInM Fence.wide n P fn tm K [] .returning w')->LeavesInM Fence.wide n P fn tm K ds .returning w
 | [],ds,s,w,hm,h,hr,hK=>by
  have:ds= []:=by have:=hm.1;simpa using this
  subst this
  injection h with h;subst h
  exact hK w (Dl.refl hr)
 |d::ms,[],s,w,hm,h,hr,hK=>by have:=hm.1;simp at this
 |d::ms,x::ds,s,w,hm,h,hr,hK=>by
  simp only[takeMarks] at h
  split at h
  ·rename_i hg
   split at h
   ·rename_i s1 hp
    obtain⟨b,y,h1,h2⟩:=hm.2 0 d rfl
    simp at h2;subst h2
    obtain⟨b',y',o',h3,h4,h5⟩:=hr.obj _ _ hg
    rw[h1] at h3;injection h3 with h3;injection h3 with e1 e2;subst e1;subst e2
    have h5:o'= .deferred (some []):=h5
    subst h5
    have g:=Rf hr hp hg h1 (Qg.obj (.deferred none) (Array.getElem?_eq_some_iff.1 h4).1) rfl
    refine⟨by simp,.inl ⟨_,_,rfl,run_takeDeferred h4,?_⟩⟩
    refine Y1 (ms:=ms) ⟨by have:=hm.1;simpa using this,fun i k hi=>hm.2 (i+1) k (by simpa using hi)⟩ h g.rel fun w' g2=>hK w' (g.trans g2)
   ·cases h
  ·cases h
theorem Y2 {α β:Type} {f:α->Sem β}:∀(zs:List α) (vs:List β),vs.length=zs.length->(∀j (hj:j<zs.length) (hj':j<vs.length),(f zs[j]).run P w= .ok (vs[j]) w)->(zs.mapM f).run P w= .ok vs w
 | [],[],_,_=>rfl
 | [],_::_,hl,_=>by simp at hl
 |_::_,[],hl,_=>by simp at hl
 |x::zs,v::vs,hl,h=>by
  have:=semLaw
  have h0:=h 0 (by simp) (by simp)
  have ih:=Y2 zs vs (by simpa using hl) fun j hj hj'=>h (j+1) (by simpa using hj) (by simpa using hj')
  rw[List.mapM_cons,Sem.run_bind,show (f x).run P w=_ from h0]
  simp only[Result.andThen]
  rw[Sem.run_bind,ih]
  rfl
def resF (tm:Array Value):ResultVar->Sem Value
 | .tmp t=>pure (tm.getD t undef)
 | .cell b t=>do loadVar t (<-asAddr (tm.getD b undef))
theorem resF_eq (fn:Func) (tm:Array Value):results fn tm=(do let vs<-fn.results.mapM (resF tm);pure (if h:vs.size=1 then vs[0] else .tuple vs)):=rfl
theorem res_ok (hr:Rel P B r s w) (hf:SlR r fr.t fr.m a.tmps):∀ {l:List ResultVar} {vs:List Value},resB P s fr l=some vs->∃vs':List Value,LR r vs vs'/\vs'.length=l.length/\∀j (hj:j<l.length) (hj':j<vs'.length),(resF a.tmps l[j]).run P w= .ok (vs'[j]) w
 | [],vs,h=>by
  injection h with h;subst h
  exact⟨[],LR.nil,rfl,fun j hj=>by simp at hj⟩
 | .tmp t::l,vs,h=>by
  simp only[resB] at h
  split at h
  ·rename_i us hu
   injection h with h;subst h
   obtain⟨us',h1,h2,h3⟩:=res_ok hr hf hu
   refine⟨a.tmps.getD t undef::us',LR.cons (hf.2.2 t) h1,by simp[h2],fun j hj hj'=> ?_⟩
   cases j with
   |zero=>rfl
   |succ j=>exact h3 j (by simpa using hj) (by simpa using hj')
  ·cases h
 | .cell b t::l,vs,h=>by
  simp only[resB] at h
  split at h
  ·rename_i k off hk
   split at h
   ·rename_i u us hl hu
    injection h with h;subst h
    obtain⟨us',h1,h2,h3⟩:=res_ok hr hf hu
    have hv:VR r (fr.get b) (a.tmps.getD b undef):=hf.2.2 b
    rw[hk] at hv
    have hp:∃b' x,r k=some (b',x)/\a.tmps.getD b undef= .pointer (some ⟨b',off,none⟩):=by
     generalize hq:a.tmps.getD b undef=q at hv
     cases hv with
     |pln h=>simp[pl] at h
     |ptr h=>exact⟨_,_,h,rfl⟩
    obtain⟨b',x,hx,hp⟩:=hp
    obtain⟨u',hu1,hu2⟩:=ld_ok hr hl hx
    refine⟨u'::us',LR.cons hu1 h1,by simp[h2],fun j hj hj'=> ?_⟩
    cases j with
    |zero=>
     show (Bind.bind (asAddr (a.tmps.getD b undef)) (loadVar t)).run P w=_
     rw[hp]
     simpa [asAddr,Sem.run_bind,Result.andThen] using hu2
    |succ j=>exact h3 j (by simpa using hj) (by simpa using hj')
   ·cases h
  ·cases h
theorem results_ok (hr:Rel P B r s w) (hf:SlR r fr.t fr.m a.tmps) {fn:Func} {vs:List Value} (h:resB P s fr fn.results.toList=some vs):∃v',(results fn a.tmps).run P w= .ok v' w/\VR r (tupV vs) v':=by
 obtain⟨vs',h1,h2,h3⟩:=res_ok hr hf h
 have hm:=Y2 (P:=P) (w:=w) fn.results.toList vs' h2 h3
 have e1:(results fn a.tmps).run P w= .ok (if h:vs'.toArray.size=1 then vs'.toArray[0] else .tuple vs'.toArray) w:=by
  have:=semLaw
  rw[resF_eq,Array.mapM_eq_mapM_toList,Sem.run_bind,map_eq_pure_bind,Sem.run_bind]
  rw[hm]
  rfl
 refine⟨_,e1,?_⟩
 match vs,vs',h1 with
 | [],vs',h1=>rw[h1.nil'];exact .pln rfl
 | [v],vs',h1=>
  obtain⟨v',rfl,hv⟩:=h1.un1
  exact hv
 |v::u::vs,vs',h1=>
  have hl:=h1.1
  have:¬vs'.toArray.size=1:=by simp[<-hl]
  rw[dif_neg this]
  exact .tu h1.arr.1 h1.arr.2
end
set_option maxRecDepth 100000
section
variable {P:Program} {R:Rec} {B:Nat} {r:Rn} {fr fr':Fr} {s s':St} {e:Exit} {v:Value} {w:World} {a:Act} {ro:Option Nat}
theorem Rh :∀(l:List Value) (i:Nat) (t:Tr Value) (k:Nat),i+l.length<=big->(putAll l i t).get k=if i<=k/\k<i+l.length then l[k-i]? else t.get k
 | [],i,t,k,_=>by rw[if_neg (by simp)];rfl
 |v::l,i,t,k,h=>by
  have hl:(v::l).length=l.length+1:=rfl
  rw[hl] at h⊢
  show (putAll l (i+1) (t.set 24 i (some v))).get k=_
  rw[Rh l (i+1) _ k (by omega),Tr.get_set 24 t i _ k (by unfold big at h;omega)]
  by_cases e:k=i
  ·subst e
   rw[if_neg (by omega),if_pos rfl,if_pos (by omega)]
   simp
  ·rw[if_neg e]
   by_cases h2:i<=k/\k<i+(l.length+1)
   ·rw[if_pos (by omega),if_pos h2]
    have:k-i=(k-(i+1))+1:=by omega
    rw[this];rfl
   ·rw[if_neg (by omega),if_neg h2]
theorem enter_sl {args args':List Value} {m:Nat} (ha:LR r args args') (hle:args.length<=m) (hm:m<=big):SlR r (putAll args 0 .nil) m (args'.toArray++Array.replicate (m-args'.toArray.size) undef):=by
 have hl:=ha.1
 refine⟨by simp[<-hl];omega,hm,fun k=> ?_⟩
 rw[Rh args 0 .nil k (by omega)]
 by_cases h:0<=k/\k<0+args.length
 ·rw[if_pos h]
  have hk:k<args.length:=by omega
  have h1:args[k-0]? =some args[k]:=by simp[hk]
  obtain⟨v',h2,h3⟩:=ha.get (i:=k) (v:=args[k]) (by simp[hk])
  have hk':k<args'.length:=by omega
  have h4:(args'.toArray++Array.replicate (m-args'.toArray.size) undef).getD k undef=v':=by
   rw[List.getElem?_eq_getElem hk'] at h2;injection h2 with h2
   simp[Array.getD_eq_getD_getElem?,Array.getElem?_append,hk',h2]
  rw[h1,h4];exact h3
 ·rw[if_neg h]
  have hk:args'.length<=k:=by omega
  have h4:(args'.toArray++Array.replicate (m-args'.toArray.size) undef).getD k undef=undef:=by
   rw[Array.getD_eq_getD_getElem?,Array.getElem?_append]
   rw[if_neg (by simpa using hk)]
   simp[Array.getElem?_replicate]
   split<;>rfl
  rw[h4];exact VR.undef
theorem call_ok {O:Orc} (hO:Vl P O) (hM:RM R) (hK:Kl P R) {f:FuncId} {args args':List Value} (h:stepCall P O R f args s=some (v,s')) (hr:Rel P B r s w) (hB:s'.next<=B) (ha:LR r args args'):Ky P (Res P B s s' r w v) ((callFunc f args'.toArray).run P w):=by
 rcases callB h with h|⟨fn,hfn,hng,h⟩
 ·exact hO.ok _ _ _ _ _ h B r w args' hr hB ha
 rcases h with⟨hb,hp,hv,hpl,rfl⟩|⟨c,e,fr,s1,vs,hb,hle,hbig,hc,he,ht,hres,rfl⟩
 ·rw[ha.same hp,M2 hv w]
  exact⟨r,.pln hpl,Dl.refl hr⟩
 ·have e1:(callFunc f args'.toArray).run P w= .ok (.enter f args'.toArray) w:=by
   simp[callFunc,Sem.run_bind,hfn,hb] at hng⊢
   simp[hng]
  rw[e1]
  intro n
  have hb1:=((hM.code _ _ _ _ _ _ hc).1 hr.nb).2
  have hB1:s1.next<=B:=Nat.le_trans ((J5 _ _ _ ht).nx hb1) hB
  refine callsIn_of_wp_marks (F:=Fence.wide) hfn hb trivial (hK.code _ _ _ _ _ _ hc B r w _ none n _ hr hB1 ⟨enter_sl ha hle hbig,rfl,fun i d hd=>by simp at hd⟩ trivial fun r1 a1 w1 hf1 g1=> ?_)
  have key:LeavesInM Fence.wide n P fn a1.tmps (fun e w'=>∃v',e= .returned v'/\Res P B s s' r w (tupV vs) v' w') a1.defers .returning w1:=by
   refine Y1 (r:=r1) hf1.2 ht g1.rel fun w2 g2=> ?_
   obtain⟨v',h1,h2⟩:=results_ok g2.rel hf1.1 hres
   exact⟨v',h1,v',rfl,r1,h2,g1.trans g2⟩
  rcases he with rfl|rfl<;>exact key
theorem yield_ok (hM:RM R) (hK:Kl P R) {l:Nat} {args args':List Value} (h:stepYield P R l args s=some (v,s')) (hr:Rel P B r s w) (hB:s'.next<=B) (ha:LR r args args') {b x:Nat} (hl:r l=some (b,x)):Ky P (Res P B s s' r w v) ((Instr.yield b args'.toArray).run P w):=by
 obtain⟨pend,t,m,ps,asg,body,d,t',fr1,s1,pend2,t2,m2,ps2,asg2,body2,d2,s2,e,fr3,s3,st3,pend3,t3,m3,ps3,asg3,body3,d3,jump,hg,hlen,ht',hc,hg2,hp2,hbd,hg3,hj,hp3,rfl⟩:=yieldB h
 have b1:=(hM.code _ _ _ _ _ _ hc).1 hr.nb
 have b2:=Hs hg2 hp2 b1.2
 have b3:=(hM.code _ _ _ _ _ _ hbd).1 b2.2
 have b4:=Hs hg3 hp3 b3.2
 have hB3:s3.next<=B:=Nat.le_trans b4.1.next hB
 have hB2:s2.next<=B:=Nat.le_trans b3.1.next hB3
 have hB1:s1.next<=B:=Nat.le_trans b2.1.next hB2
 obtain⟨fn,tm,d',y,h1,h2,h3⟩:=hr.at_loop hg hl
 rw[run_yield h1 (by simp[<-ha.1,hlen])]
 intro n
 have hsl:SlR r t' m ((ps.zip args'.toArray).foldl (fun tmps (t,a)=>tmps.setIfInBounds t a) tm):=by
  have:=Uk (l:=ps.toList) (by simpa using hlen) ha h3 ht'
  rw[<-Array.foldl_toList,Array.toList_zip]
  exact this
 refine roundIn_of_wpIn (F:=Fence.wide) trivial ?_
 refine hK.code _ _ _ _ _ _ hc B r w _ (some b) n _ hr hB1 ⟨hsl,rfl,fun i d hd=>by simp at hd⟩ ⟨x,hl⟩ fun r1 a1 w1 hf1 g1=> ?_
 have hl1:=g1.up hr _ _ hl
 obtain⟨fn1,tm1,d1',y1,k1,k2,k3⟩:=g1.rel.at_loop hg2 hl1
 refine⟨_,run_beginRound k1 rfl,?_⟩
 have g2:=Rg g1.rel hg2 hp2 hl1 k1 k2 k3
 have hro:fr1.round=some l:=(hM.code _ _ _ _ _ _ hc).2.1
 refine hK.code _ _ _ _ _ _ hbd B r1 _ a1 (some b) n _ g2.rel hB3 hf1 (by rw[hro];exact⟨x,hl1⟩) fun r3 a3 w3 hf3 g3=> ?_
 have hl3:=g3.up g2.rel _ _ hl1
 obtain⟨fn3,tm3,d3',y3,q1,q2,q3⟩:=g3.rel.at_loop hg3 hl3
 refine Vy hj ⟨_,_,run_endRound jump q1,_,rfl,r3,.pln rfl,((g1.trans g2).trans g3).trans ?_⟩
 have hb:(if jump.isNone=true then LoopState.ready else LoopState.done)=(bif jump.isNone then LoopState.ready else LoopState.done):=by cases jump<;>rfl
 have g4:=Rg g3.rel hg3 hp3 hl3 q1 q2 q3
 rw[<-hb] at g4
 exact g4
theorem G7 {f:Value} {f':Value} (h:Mc P f=true) (hv:VR r f f'):∃g first' cap' fn c,f'= .func (.func g) first' cap'/\P.funcs[g]? =some fn/\fn.body=some c/\(fn.name== "runtime.NumGoroutine")=false:=by
 unfold Mc at h
 split at h
 ·rename_i g first cap
  split at h
  ·rename_i fn hfn
   simp only[Bool.and_eq_true,Bool.not_eq_true'] at h
   obtain⟨hb,hn⟩:=h
   obtain⟨c,hc⟩:=Option.isSome_iff_exists.1 hb
   have hff:∃first' cap',f'= .func (.func g) first' cap':=by
    cases hv with
    |pln h=>exact⟨_,_,rfl⟩
    |fn h1 h2 h3 h4=>exact⟨_,_,rfl⟩
   obtain⟨first',cap',rfl⟩:=hff
   exact⟨g,first',cap',fn,c,rfl,hfn,hc,hn⟩
  ·cases h
 ·cases h
theorem range_ok (hM:RM R) (hK:Kl P R) {f:Operand} {ps:Array Tmp} {asg body:Code} (h:stepCode P R (.rangeFunc f ps asg body) fr s=some (e,fr',s')):S4 P fr s e fr' s' fun ro n Q a w=>(Code.rangeFunc f ps asg body).wpIn (FO ro) n P Q a w:=by
 obtain⟨hok,hent,d,mk,s1,l,s2,v,s3,st,pend,t,m,ps',asg',body',d',hE,hn,hc,hg,hb,hp,rfl,hj⟩:=rangeB h
 intro B r w a ro n Q hr hB hf ho hQ
 have b1:=hE.mb hr.nb
 have b2:=M6 hn b1.2
 have b3:=Si hM hc b2.2
 have b4:=Hs hg hp b3.2
 have hB3:s3.next<=B:=Nat.le_trans b4.1.next hB
 have hB2:s2.next<=B:=Nat.le_trans b3.1.next hB3
 refine wpIn_rangeFunc fun fn _=> ?_
 obtain⟨lb,mark,w2,r2,x,he,g,hl,hf2⟩:=ent_ok hE hn hB2 hr hf ho fn
 have hv:=(ev_ok hr.gl hf.1 hok).mono (g.up hr)
 obtain⟨g0,first',cap',fn0,c0,hev,hfn0,hb0,hn0⟩:=G7 hent hv
 have hinv:(invoke (.fn (.func g0) cap') (first'++ #[.func (.yield lb) #[] #[]])).run P w2= .ok (.enter g0 (first'++ #[.func (.yield lb) #[] #[]]++cap')) w2:=by
  simp[invoke,callFunc,Sem.run_bind,hfn0,hb0] at hn0⊢
  simp[hn0]
 have hup:=Zn hK.toKm (args':= [.func (.yield lb) #[] #[]]) g.rel hB3 hc hv (LR.cons (.yl hl) LR.nil)
 rw[hev] at hup
 have e0:(do let d<-Deferred.ofValue (.func (.func g0) first' cap') [Value.func (.yield lb) #[] #[]].toArray;invoke d.target d.args:Sem Go.Next).run P w2= .ok (.enter g0 (first'++ #[.func (.yield lb) #[] #[]]++cap')) w2:=by
  rw[<-hinv];rfl
 rw[e0] at hup
 refine⟨lb,mark,w2,{target:= .fn (.func g0) cap',args:=first'++ #[.func (.yield lb) #[] #[]]},w2,g0,_,w2,he,?_,fun _ _=>trivial,hinv,fun h=>by simp[FO,Fence.wide] at h,?_⟩
 ·have e2:Go.resolve a.eval (rangeCall f lb) 0=Deferred.ofValue (a.eval f) #[Value.func (.yield lb) #[] #[]]:=by simp[Go.resolve,Act.eval]
  rw[e2,hev];rfl
 ·have hcall:=(hup (n-1)).mono (R':=rangePost (FO ro) n P lb Q {a with defers:=mark++a.defers}) (by
   rintro e w3 ⟨v',rfl,r3,_,g3⟩
   have hl3:=g3.up g.rel _ _ hl
   obtain⟨fn3,tm3,dd,y,h1,h2,h3⟩:=g3.rel.at_loop hg hl3
   refine⟨_,_,run_endLoop h1 hb,?_⟩
   have g4:=Rg g3.rel hg hp hl3 h1 h2 h3
   have hfin:=hQ r3 {a with defers:=mark++a.defers} _ (hf2.mono (g3.up g.rel)) ((g.trans g3).trans g4)
   rcases hj with⟨rfl,rfl⟩|⟨rfl,rfl⟩|⟨k,rfl,rfl⟩
   ·exact hfin
   ·exact wpIn_ret hfin
   ·exact wpIn_exit hfin)
  exact hcall
theorem Vo {K:Act->World->Prop} {Q:Exit->Act->World->Prop} (hn:e≠ .normal) (h:Q e a w):Exit.then K Q e a w:=by
 cases e<;>first|exact absurd rfl hn|exact h
theorem scope_in {b:Code} {Q:Exit->Act->World->Prop} (h:InSc P b b Q a w):(Code.scope b).wp P Q a w:=by
 intro f k cs
 obtain⟨e,a',w',hq,harr⟩:=h f k cs
 exact⟨e,a',w',hq,.of_steps (.one step_scope) harr⟩
theorem jback_ok (hM:RM R) (hK:Kl P R) {b c:Code} (h:stepBack R b c fr s=some (e,fr',s')) (hro:fr.round=none):S4 P fr s e fr' s' fun _ _ Q a w=>InSc P b c Q a w:=by
 intro B r w a ro n Q hr hB hf ho hQ f k cs
 have ho':RoR r fr.round none:=by rw[hro];trivial
 unfold stepBack at h
 split at h
 ·rename_i l fr1 s1 hq
  have m1:=hM.code _ _ _ _ _ _ hq
  have b1:=m1.1 hr.nb
  split at h
  ·rename_i rest hl
   have hB1:s1.next<=B:=Nat.le_trans ((hM.back _ _ _ _ _ _ _ h).1.nx b1.2) hB
   obtain⟨e1,a1,w1,⟨rfl,hin⟩,harr⟩:=wpIn_wide.1 (hK.code _ _ _ _ _ _ hq B r w a none n (fun e1 a1 w1=>e1= .goto l/\InSc P b rest Q a1 w1) hr hB1 hf ho' fun r1 a1 w1 hf1 g1=>⟨rfl,hK.back _ _ _ _ _ _ _ h (by rw[m1.2.1];exact hro) B r1 w1 a1 none n Q g1.rel hB hf1 (by rw[m1.2.1,hro];trivial) fun r2 a2 w2 hf2 g2=>hQ r2 a2 w2 hf2 (g1.trans g2)⟩) f (.inScope b::k) cs
   obtain⟨e2,a2,w2,hq2,harr2⟩:=hin f k cs
   exact⟨e2,a2,w2,hq2,.of_steps (harr _ (by simp[gotoIn,hl])) harr2⟩
  ·rename_i hl
   injection h with h;injection h with e1 h;injection h with e2 e3
   subst e1;subst e2;subst e3
   obtain⟨e1,a1,w1,⟨rfl,hq1⟩,harr⟩:=wpIn_wide.1 (hK.code _ _ _ _ _ _ hq B r w a none n (fun e1 a1 w1=>e1= .goto l/\Q (.goto l) a1 w1) hr hB hf ho' fun r1 a1 w1 hf1 g1=>⟨rfl,hQ r1 a1 w1 hf1 g1⟩) f (.inScope b::k) cs
   exact⟨.goto l,a1,w1,hq1,fun k' hk=>harr k' (by simp[gotoIn,hl,hk])⟩
 ·rename_i hne
  obtain⟨e1,a1,w1,⟨rfl,hq1⟩,harr⟩:=wpIn_wide.1 (hK.code _ _ _ _ _ _ h B r w a none n (fun e1 a1 w1=>e1=e/\Q e a1 w1) hr hB hf ho' fun r1 a1 w1 hf1 g1=>⟨rfl,hQ r1 a1 w1 hf1 g1⟩) f (.inScope b::k) cs
  cases e1 with
  |normal=>exact⟨.normal,a1,w1,hq1,Steps.trans harr (.one step_inScope)⟩
  |exit id=>exact⟨.exit id,a1,w1,hq1,fun k' hk=>harr k' (by simp[exitTo,hk])⟩
  |goto l=>exact absurd h (hne _ _ _)
  |ret=>exact⟨_,a1,w1,hq1,harr⟩
  |panic ch=>exact⟨_,a1,w1,hq1,harr⟩
  |outgrown=>exact⟨_,a1,w1,hq1,harr⟩
theorem code_ok (hfo:P.follows .mixedOrders=true) (hM:RM R) (hK:Kl P R) {c:Code} (h:stepCode P R c fr s=some (e,fr',s')):S4 P fr s e fr' s' fun ro n Q a w=>c.wpIn (FO ro) n P Q a w:=by
 have two:∀ {c1 c2:Code} {fr1 s1} (h1:R.code c1 fr s=some (.normal,fr1,s1)) (h2:R.code c2 fr1 s1=some (e,fr',s')) {B r w a ro n} {Q:Exit->Act->World->Prop},Rel P B r s w->s'.next<=B->FrR r fr a->RoR r fr.round ro->(∀r' a' w',FrR r' fr' a'->Dl P B s s' r r' w w'->Q e a' w')->c1.wpIn (FO ro) n P (Exit.then (c2.wpIn (FO ro) n P Q) Q) a w:=by
  intro c1 c2 fr1 s1 h1 h2 B r w a ro n Q hr hB hf ho hQ
  have m1:=hM.code _ _ _ _ _ _ h1
  have b1:=m1.1 hr.nb
  refine hK.code _ _ _ _ _ _ h1 B r w a ro n _ hr (Nat.le_trans ((hM.code _ _ _ _ _ _ h2).1.nx b1.2) hB) hf ho fun r1 a1 w1 hf1 g1=> ?_
  exact hK.code _ _ _ _ _ _ h2 B r1 w1 a1 ro n Q g1.rel hB hf1 (by rw[m1.2.1];exact ho.mono (g1.up hr)) fun r2 a2 w2 hf2 g2=>hQ r2 a2 w2 hf2 (g1.trans g2)
 cases c with
 |rangeFunc f ps asg body=>
  exact range_ok hM hK h
 |region id ops draw=>
  unfold stepCode at h
  simp only[Option.map_eq_some_iff,Prod.mk.injEq] at h
  obtain⟨q,hq,rfl,rfl,rfl⟩:=h
  exact fun B r w a ro n Q hr hB hf ho hQ=>regB_ok hfo hM hK.toKm (fr':=q.1) (s':=q.2) hq hB hr hf hQ
 |seq c1 c2=>
  unfold stepCode at h
  simp only at h
  split at h
  ·rename_i fr1 s1 hq
   exact fun B r w a ro n Q hr hB hf ho hQ=>wpIn_seq (two hq h hr hB hf ho hQ)
  ·rename_i hne
   refine fun B r w a ro n Q hr hB hf ho hQ=>wpIn_seq (hK.code _ _ _ _ _ _ h B r w a ro n _ hr hB hf ho fun r1 a1 w1 hf1 g1=>Vo ?_ (hQ r1 a1 w1 hf1 g1))
   rintro rfl;exact hne _ _ h
 |loop c1=>
  unfold stepCode at h
  simp only at h
  split at h
  ·rename_i fr1 s1 hq
   obtain⟨m,hm⟩:=hK.loop _ _ _ _ _ _ h
   intro B r w a ro n Q hr hB hf ho hQ
   have m1:=hM.code _ _ _ _ _ _ hq
   have b1:=m1.1 hr.nb
   refine wpIn_loop_rounds (m+1) (hK.code _ _ _ _ _ _ hq B r w a ro n _ hr (Nat.le_trans ((hM.code _ _ _ _ _ _ h).1.nx b1.2) hB) hf ho fun r1 a1 w1 hf1 g1=> ?_)
   exact hm B r1 w1 a1 ro n Q g1.rel hB hf1 (by rw[m1.2.1];exact ho.mono (g1.up hr)) fun r2 a2 w2 hf2 g2=>hQ r2 a2 w2 hf2 (g1.trans g2)
  ·rename_i hne
   refine fun B r w a ro n Q hr hB hf ho hQ=>wpIn_loop_rounds 1 (hK.code _ _ _ _ _ _ h B r w a ro n _ hr hB hf ho fun r1 a1 w1 hf1 g1=>Vo ?_ (hQ r1 a1 w1 hf1 g1))
   rintro rfl;exact hne _ _ h
 |block id c1=>
  unfold stepCode at h
  simp only at h
  split at h
  ·rename_i k fr1 s1 hq
   rcases D1 h with⟨hk,h⟩|⟨hk,h⟩
   ·have hk:=Nat.eq_of_beq_eq_true hk
    injection h with h;injection h with e1 h;injection h with e2 e3
    subst e1;subst e2;subst e3
    refine fun B r w a ro n Q hr hB hf ho hQ=>wpIn_block (hK.code _ _ _ _ _ _ hq B r w a ro n _ hr hB hf ho fun r1 a1 w1 hf1 g1=> ?_)
    show (if k=id then _ else _)
    rw[if_pos hk];exact hQ r1 a1 w1 hf1 g1
   ·have hk:k≠id:=fun e=>by rw[e] at hk;simp at hk
    injection h with h;injection h with e1 h;injection h with e2 e3
    subst e1;subst e2;subst e3
    refine fun B r w a ro n Q hr hB hf ho hQ=>wpIn_block (hK.code _ _ _ _ _ _ hq B r w a ro n _ hr hB hf ho fun r1 a1 w1 hf1 g1=> ?_)
    show (if k=id then _ else _)
    rw[if_neg hk];exact hQ r1 a1 w1 hf1 g1
  ·rename_i hne
   refine fun B r w a ro n Q hr hB hf ho hQ=>wpIn_block (hK.code _ _ _ _ _ _ h B r w a ro n _ hr hB hf ho fun r1 a1 w1 hf1 g1=> ?_)
   have:=hQ r1 a1 w1 hf1 g1
   cases e<;>first|exact this|exact absurd h (hne _ _ _)
 |cond c c1 c2=>
  unfold stepCode at h
  simp only at h
  obtain⟨hok,h⟩:=Bh h
  split at h
  ·rename_i t ht
   rcases D1 h with⟨rfl,h⟩|⟨rfl,h⟩
   ·refine fun B r w a ro n Q hr hB hf ho hQ=>wpIn_cond_true ?_ (hK.code _ _ _ _ _ _ h B r w a ro n Q hr hB hf ho hQ)
    have:=ev_ok hr.gl hf.1 hok;rw[ht] at this;exact this.bool
   ·refine fun B r w a ro n Q hr hB hf ho hQ=>wpIn_cond_false ?_ (hK.code _ _ _ _ _ _ h B r w a ro n Q hr hB hf ho hQ)
    have:=ev_ok hr.gl hf.1 hok;rw[ht] at this;exact this.bool
  ·cases h
 |scope c1=>
  unfold stepCode at h
  simp only at h
  split at h
  ·rename_i hro
   refine fun B r w a ro n Q hr hB hf ho hQ=> ?_
   rw[hro] at ho
   cases ro with
   |some _=>cases ho
   |none=>exact wpIn_wide.2 (scope_in (hK.back _ _ _ _ _ _ _ h hro B r w a none n Q hr hB hf (by rw[hro];trivial) hQ))
  ·cases h
 |goto l=>
  unfold stepCode at h
  simp only at h
  injection h with h;injection h with e1 h;injection h with e2 e3
  subst e1;subst e2;subst e3
  exact fun B r w a ro n Q hr hB hf ho hQ=>wpIn_goto (hQ r a w hf (Dl.refl hr))
 |skip=>
  unfold stepCode at h
  simp only at h
  injection h with h;injection h with e1 h;injection h with e2 e3
  subst e1;subst e2;subst e3
  exact fun B r w a ro n Q hr hB hf ho hQ=>wpIn_skip (hQ r a w hf (Dl.refl hr))
 |label l=>
  unfold stepCode at h
  simp only at h
  injection h with h;injection h with e1 h;injection h with e2 e3
  subst e1;subst e2;subst e3
  exact fun B r w a ro n Q hr hB hf ho hQ=>wpIn_label (hQ r a w hf (Dl.refl hr))
 |exit l=>
  unfold stepCode at h
  simp only at h
  injection h with h;injection h with e1 h;injection h with e2 e3
  subst e1;subst e2;subst e3
  exact fun B r w a ro n Q hr hB hf ho hQ=>wpIn_exit (hQ r a w hf (Dl.refl hr))
 |ret=>
  unfold stepCode at h
  simp only at h
  injection h with h;injection h with e1 h;injection h with e2 e3
  subst e1;subst e2;subst e3
  exact fun B r w a ro n Q hr hB hf ho hQ=>wpIn_ret (hQ r a w hf (Dl.refl hr))
 |_=>unfold stepCode at h;cases h
theorem loop_ok (hM:RM R) (hK:Kl P R) {c:Code} (h:stepCode P R (.loop c) fr s=some (e,fr',s')):∃m,S4 P fr s e fr' s' fun ro n Q a w=>Code.roundsIn (FO ro) n P c Q m a w:=by
 unfold stepCode at h
 simp only at h
 split at h
 ·rename_i fr1 s1 hq
  obtain⟨m,hm⟩:=hK.loop _ _ _ _ _ _ h
  refine⟨m+1,?_⟩
  intro B r w a ro n Q hr hB hf ho hQ
  have m1:=hM.code _ _ _ _ _ _ hq
  have b1:=m1.1 hr.nb
  refine hK.code _ _ _ _ _ _ hq B r w a ro n _ hr (Nat.le_trans ((hM.code _ _ _ _ _ _ h).1.nx b1.2) hB) hf ho fun r1 a1 w1 hf1 g1=> ?_
  exact hm B r1 w1 a1 ro n Q g1.rel hB hf1 (by rw[m1.2.1];exact ho.mono (g1.up hr)) fun r2 a2 w2 hf2 g2=>hQ r2 a2 w2 hf2 (g1.trans g2)
 ·rename_i hne
  refine⟨1,fun B r w a ro n Q hr hB hf ho hQ=>hK.code _ _ _ _ _ _ h B r w a ro n _ hr hB hf ho fun r1 a1 w1 hf1 g1=>Vo ?_ (hQ r1 a1 w1 hf1 g1)⟩
  rintro rfl;exact hne _ _ h
theorem step_ok {O:Orc} (hO:Vl P O) (hfo:P.follows .mixedOrders=true) (hM:RM R) (hK:Kl P R):Kl P ⟨stepCode P R,stepCall P O R,stepYield P R,stepBack R⟩ where
 call:=fun _ _ _ _ _ h _ _ _ _ hr hB ha=>call_ok hO hM hK h hr hB ha
 yield:=fun _ _ _ _ _ h _ _ _ _ hr hB ha _ _ hl=>yield_ok hM hK h hr hB ha hl
 code:=fun _ _ _ _ _ _ h=>code_ok hfo hM hK h
 back:=fun _ _ _ _ _ _ _ h hro=>jback_ok hM hK h hro
 loop:=fun _ _ _ _ _ _ h=>loop_ok hM hK h
theorem Wu {O:Orc} (hO:Vl P O) (hfo:P.follows .mixedOrders=true):∀n,RM (ev P O n)/\Kl P (ev P O n)
 |0=>⟨⟨(fun _ _ _ _ _ _ h=>by cases h),(fun _ _ _ _ _ h=>by cases h),(fun _ _ _ _ _ h=>by cases h),(fun _ _ _ _ _ _ _ h=>by cases h)⟩,⟨⟨(fun _ _ _ _ _ h=>by cases h),(fun _ _ _ _ _ h=>by cases h)⟩,(fun _ _ _ _ _ _ h=>by cases h),(fun _ _ _ _ _ _ _ h=>by cases h),(fun _ _ _ _ _ _ h=>by cases h)⟩⟩
 |n+1=>⟨step_rm hO.mb (Wu hO hfo n).1,step_ok hO hfo (Wu hO hfo n).1 (Wu hO hfo n).2⟩
theorem orc_none :Vl P fun _ _ _=>none:=⟨(fun _ _ _ _ _ h=>by cases h),(fun _ _ _ _ _ h=>by cases h)⟩
theorem run_true {O:Orc} (hO:Vl P O) (hfo:P.follows .mixedOrders=true) {f:FuncId} {s0:St} {r:Rn} (h:runB P O s0 f=true) (hen:Mc P (.func (.func f) #[] #[])=true) (w:World) (hl:∀k,k<s0.next->¬wrt s0 k) (hr:∀B,s0.next<=B->Rel P B r s0 w):Calls P f #[] w fun e w'=>e= .returned (.bool true)/\Below w.heap.size w w':=by
 unfold runB at h
 split at h
 ·rename_i s' hc
  have hc:(ev P O 1000000).call f [] s0=some (.bool true,s'):=hc
  obtain⟨hM,hK⟩:=Wu hO hfo 1000000
  obtain⟨g,first',cap',fn,c,e0,hfn,hb,hn⟩:=G7 (r:=fun _=>none) hen (.pln rfl)
  injection e0 with e0;injection e0 with e0;subst e0
  have hr:=hr s'.next ((hM.call _ _ _ _ _ hc).nx (hr _ (Nat.le_refl _)).nb)
  have hup:=hK.call _ _ _ _ _ hc s'.next r w [] hr (Nat.le_refl _) LR.nil
  have e1:(callFunc f ([]:List Value).toArray).run P w= .ok (.enter f #[]) w:=by
   simp[callFunc,Sem.run_bind,hfn,hb] at hn⊢
   simp[hn]
  rw[e1] at hup
  refine callsIn_wide.1 ((hup 0).mono ?_)
  rintro e w' ⟨v,rfl,r',hv,hg⟩
  exact⟨by rw[hv.bool],hg.ext.os,hg.ext.tape,hg.ext.output,hg.ext.size,fun k hk=>hg.ext.frame k hk fun k x h1 h2=>absurd h2 (hl k h1)⟩
 ·cases h
def st0:St:=⟨.nil,0,0,big,[],0⟩
theorem rel_st0 (B:Nat) (w:World):Rel P B (fun _=>none) st0 w:=by
 have hnone:∀k,st0.get k=none:=fun _=>rfl
 exact⟨Nat.zero_le _,Nat.zero_le _,fun _ _ _=>rfl,(fun k o hk=>by rw[hnone] at hk;cases hk),fun k k' b x x' hk=>absurd (hnone k) hk,fun _ _=>rfl,(fun k hk=>by cases hk),(fun g hg=>by cases hg),Nat.zero_le _⟩
theorem run_true0 {O:Orc} (hO:Vl P O) (hfo:P.follows .mixedOrders=true) {f:FuncId} (h:runB P O st0 f=true) (hen:Mc P (.func (.func f) #[] #[])=true) (w:World):Calls P f #[] w fun e w'=>e= .returned (.bool true)/\Below w.heap.size w w':=
 run_true hO hfo h hen w (fun k hk=>absurd hk (Nat.not_lt_zero _)) fun B _=>rel_st0 B w
end
set_option maxRecDepth 1000000
theorem Xr :runB Tryz.prog (fun _ _ _=>none) st0 8=true:=by kernel_rfl
theorem Ty (w:World):Cb 8 #[] w (.bool true):=run_true0 orc_none (by kernel_rfl) Xr (by kernel_rfl) w
#print axioms Ty
end Go.Proofs.YtdeghcgakkhbmaaGreat
