/- Parts of the proof that follows. No condition. -/
import Derived.Test.YtidfcoooccblaaaGreatBon10
set_option maxRecDepth 100000
set_option maxHeartbeats 8000000
set_option linter.unusedSimpArgs false
set_option linter.unusedVariables false
namespace Go.Proofs.YtidfcoooccblaaaGreat
open Go.RowKit
instance : DecidableEq Ah := fun a b =>
 if h:a.f=b.f/\a.s=b.s/\a.c=b.c then isTrue (by obtain⟨a1,a2,a3⟩:=a;obtain⟨b1,b2,b3⟩:=b;obtain⟨h1,h2,h3⟩:=h;simp at h1 h2 h3;subst h1;subst h2;subst h3;rfl)
 else isFalse (fun e=>h (by subst e;exact⟨rfl,rfl,rfl⟩))
def Di (s p:Int):List Int->Nat
 | []=>0
 |t::l=>if t-p=s then Di s t l+1 else 0
theorem extn_le (s:Int):∀(l:List Int) (p:Int),Di s p l<=l.length
 | [],_=>Nat.le_refl _
 |t::l,p=>by
  simp only[Di,List.length_cons]
  split
  ·have:=extn_le s l t;omega
  ·omega
theorem Rz (s p:Int) (k:Nat):p+s+s*((k:Int)+1)=p+s*(((k+1:Nat):Int)+1):=by
 have:s*(((k+1:Nat):Int)+1)=s+s*((k:Int)+1):=by
  rw[show (((k+1:Nat):Int)+1)=1+((k:Int)+1) by omega,Int.mul_add,Int.mul_one]
 omega
theorem O2 (s:Int):∀(l:List Int) (p:Int),l.take (Di s p l)=(List.range (Di s p l)).map fun(k:Nat)=>p+s*((k:Int)+1)
 | [],_=>rfl
 |t::l,p=>by
  simp only[Di]
  split
  ·next h=>
   rw[List.take_succ_cons,O2 s l t,List.range_succ_eq_map,List.map_cons,List.map_map]
   congr 1
   ·simp;omega
   ·apply List.map_congr_left
    intro k _
    show t+s*((k:Int)+1)=p+s*(((k+1:Nat):Int)+1)
    rw[<-Rz,show t=p+s by omega]
  ·simp
theorem Sq (s:Int):∀(l:List Int) (p t:Int) (m:List Int),l.drop (Di s p l)=t::m->t-(p+s*(Di s p l:Int))≠s
 | [],p,t,m,h=>by simp at h
 |x::l,p,t,m,h=>by
  simp only[Di] at h⊢
  split at h
  ·next hx=>
   rw[if_pos hx]
   rw[List.drop_succ_cons] at h
   have ih:=Sq s l x t m h
   have e:p+s*((Di s x l+1:Nat):Int)=x+s*(Di s x l:Int):=by
    rw[show x=p+s by omega,show ((Di s (p+s) l+1:Nat):Int)=1+(Di s (p+s) l:Int) by omega,Int.mul_add,Int.mul_one]
    omega
   rw[e];exact ih
  ·next hx=>
   rw[if_neg hx]
   simp at h
   simp
   rw[<-h.1];exact hx
def ofL:List Int->List Ah
 | []=> []
 | [t]=> [⟨t,0,1⟩]
 |a::b::l=>⟨a,b-a,((Di (b-a) b l+2:Nat):Int)⟩::ofL (l.drop (Di (b-a) b l))
termination_by l=>l.length
decreasing_by simp;omega
theorem J6 :ofL []= []:=by rw[ofL]
theorem Lz (t:Int):ofL [t]= [⟨t,0,1⟩]:=by rw[ofL]
theorem Jm (a b:Int) (l:List Int):ofL (a::b::l)=⟨a,b-a,((Di (b-a) b l+2:Nat):Int)⟩::ofL (l.drop (Di (b-a) b l)):=by rw[ofL]
theorem U6 (a b:Int) (l:List Int):B9 ⟨a,b-a,((Di (b-a) b l+2:Nat):Int)⟩=a::b::l.take (Di (b-a) b l):=by
 unfold B9
 simp only[]
 rw[Int.toNat_natCast,List.range_succ_eq_map,List.map_cons,List.map_map,List.range_succ_eq_map,List.map_cons,List.map_map,O2]
 congr 1
 ·simp
 ·congr 1
  ·simp[Function.comp];omega
  ·apply List.map_congr_left
   intro k _
   show a+(b-a)*((k+1+1:Nat):Int)=b+(b-a)*((k:Int)+1)
   rw[show ((k+1+1:Nat):Int)=1+((k:Int)+1) by omega,Int.mul_add,Int.mul_one]
   omega
theorem U5 :∀(n:Nat) (t:List Int),t.length<=n->Af (ofL t)=t
 |_,[],_=>by rw[J6];rfl
 |_,[t],_=>by rw[Lz];simp[Af,B9]
 |0,a::b::l,h=>by simp at h
 |n+1,a::b::l,h=>by
  rw[Jm]
  show B9 _++Af _=_
  rw[U6,U5 n _ (by simp at h⊢;omega)]
  simp
structure Gv (t:List Int):Prop where
 up:t.Pairwise (·<·)
 lo:∀x,x∈t->0<=x/\x<=281474976710656
theorem Gv.tail {a:Int} {t:List Int} (h:Gv (a::t)):Gv t:=⟨(List.pairwise_cons.1 h.up).2,fun x hx=>h.lo x (by simp[hx])⟩
theorem Gv.drop {t:List Int} (h:Gv t) (k:Nat):Gv (t.drop k):=⟨h.up.sublist (List.drop_sublist k t),fun x hx=>h.lo x (List.mem_of_mem_drop hx)⟩
theorem of_first {t:List Int} {q:Ah} (h:(ofL t).head? =some q):t.head? =some q.f:=by
 match t,h with
 | [],h=>simp[J6] at h
 | [x],h=>simp[Lz] at h;subst h;rfl
 |a::b::l,h=>rw[Jm] at h;simp at h;subst h;rfl
theorem Oz (a b:Int) (l:List Int):Cs ⟨a,b-a,((Di (b-a) b l+2:Nat):Int)⟩=b+(b-a)*(Di (b-a) b l:Int):=by
 unfold Cs
 simp only[]
 rw[show ((Di (b-a) b l+2:Nat):Int)-1=1+(Di (b-a) b l:Int) by omega,Int.mul_add,Int.mul_one]
 omega
theorem V0 (a b:Int) (l:List Int):b+(b-a)*(Di (b-a) b l:Int)∈b::l.take (Di (b-a) b l):=by
 rw[O2]
 rcases Nat.eq_zero_or_pos (Di (b-a) b l) with h|h
 ·rw[h];simp
 ·refine List.mem_cons_of_mem _ (List.mem_map.2 ⟨Di (b-a) b l-1,List.mem_range.2 (by omega),?_⟩)
  rw[show ((Di (b-a) b l-1:Nat):Int)+1=(Di (b-a) b l:Int) by omega]
theorem of_each :∀(n:Nat) (t:List Int),t.length<=n->t.length<=256->Gv t->(∀r,r∈ofL t->Fb r)/\Jy (ofL t)
 |_,[],_,_,_=>by rw[J6];exact⟨by simp,trivial⟩
 |_,[t],_,_,h=>by
  rw[Lz]
  have:=h.lo t (by simp)
  refine⟨?_,?_⟩
  ·intro r hr
   simp at hr
   subst hr
   exact⟨by simp;omega,by simp;omega,by simp,by simp,by simp,by simp,by simp,by simp[Cs];omega⟩
  ·exact⟨by simp,trivial⟩
 |0,a::b::l,h,_,_=>by simp at h
 |n+1,a::b::l,hn,h256,h=>by
  have hk:=extn_le (b-a) l b
  have ih:=of_each n (l.drop (Di (b-a) b l)) (by simp at hn⊢;omega) (by simp at h256⊢;omega) (h.tail.tail.drop _)
  have ha:=h.lo a (by simp)
  have hb:=h.lo b (by simp)
  have hab:a<b:=(List.pairwise_cons.1 h.up).1 b (by simp)
  have hlm:b+(b-a)*(Di (b-a) b l:Int)∈b::l:=by
   have:=V0 a b l
   rcases List.mem_cons.1 this with e|e
   ·rw[e];simp
   ·exact List.mem_cons_of_mem _ (List.mem_of_mem_take e)
  have hlast:=h.lo _ (List.mem_cons_of_mem a hlm)
  rw[Jm]
  refine⟨?_,?_⟩
  ·intro r hr
   rcases List.mem_cons.1 hr with e|e
   ·subst e
    refine⟨ha.1,ha.2,by simp;omega,by simp;omega,by simp;omega,by simp at h256;simp;omega,by simp;omega,?_⟩
    rw[Oz];exact hlast.2
   ·exact ih.1 r e
  ·refine⟨?_,ih.2⟩
   intro q hq
   have h1:=of_first hq
   cases hd:l.drop (Di (b-a) b l) with
   |nil=>rw[hd] at h1;simp at h1
   |cons x m=>
    rw[hd] at h1
    simp at h1
    have hs:=Sq _ l b x m hd
    refine⟨⟨?_,?_⟩,by simp;omega⟩
    ·rw[Oz,<-h1]
     have hu:(b::l).Pairwise (·<·):=(List.pairwise_cons.1 h.up).2
     have e:b::l=(b::l.take (Di (b-a) b l))++(x::m):=by rw[<-hd,List.cons_append,List.take_append_drop]
     rw[e,List.pairwise_append] at hu
     exact hu.2.2 _ (V0 a b l) x (by simp)
    ·rw[Oz,<-h1];exact hs
theorem Mi {l:List Ah} (h:∀r,r∈l->Fb r):((Af l).length:Int)=cnt l:=Cu l fun r hr=>by have:=(h r hr).c0;omega
theorem Uc :∀(l:List Ah),(∀r,r∈l->1<=r.c)->(l.length:Int)<=cnt l
 | [],_=>by simp[cnt]
 |r::l,h=>by
  have:=Uc l fun r hr=>h r (by simp[hr])
  have:=h r (by simp)
  simp[cnt];omega
theorem of_runs {t:List Int} (h:Gv t) (h0:0<t.length) (h1:t.length<=256):Ce (ofL t):=by
 obtain⟨he,hc⟩:=of_each t.length t (Nat.le_refl _) h1 h
 have ht:=U5 t.length t (Nat.le_refl _)
 have hn:=Mi he
 rw[ht] at hn
 have hg:=Uc _ fun r hr=>(he r hr).c0
 refine⟨?_,by omega,he,by omega,hc⟩
 cases hl:ofL t with
 |nil=>rw[hl] at ht;simp[Af] at ht;subst ht;simp at h0
 |cons r l=>simp
theorem Wc (s:Int):∀(k:Nat) (p:Int) (m:List Int),(∀x,m.head? =some x->x-(p+s*(k:Int))≠s)->Di s p ((List.range k).map (fun(i:Nat)=>p+s*((i:Int)+1))++m)=k
 |0,p,[],_=>rfl
 |0,p,x::m,h=>by
  have:=h x rfl
  simp at this
  simp[Di,this]
 |k+1,p,m,h=>by
  rw[List.range_succ_eq_map,List.map_cons,List.map_map,List.cons_append]
  simp only[Di]
  rw[if_pos (by simp;omega)]
  congr 1
  have e:(fun(i:Nat)=>p+s*((i:Int)+1))∘Nat.succ=fun(i:Nat)=>(p+s)+s*((i:Int)+1):=by
   funext i
   exact(Rz s p i).symm
  rw[e]
  have:=Wc s k (p+s) m fun x hx=>by
   have h1:=h x hx
   rw[show ((k+1:Nat):Int)=1+(k:Int) by omega,Int.mul_add,Int.mul_one] at h1
   intro h2;apply h1;omega
  simpa using this
theorem Vr :∀(l:List Ah),(∀r,r∈l->Fb r)->Jy l->ofL (Af l)=l
 | [],_,_=>by simp[Af,J6]
 |r::l,he,hc=>by
  have hr:=he r (by simp)
  have ih:=Vr l (fun q hq=>he q (by simp[hq])) hc.tail
  have c0:=hr.c0
  by_cases h1:r.c=1
  ·have hl:l= []:=by
    cases l with
    |nil=>rfl
    |cons q l=>have:=(hc.1 q rfl).2;omega
   subst hl
   obtain⟨f,s,c⟩:=r
   simp at h1
   subst h1
   have hs:s=0:=hr.one.1 rfl
   subst hs
   simp[Af,B9,Lz]
  ·obtain⟨k,hk⟩:∃k:Nat,r.c=((k+2:Nat):Int):=⟨(r.c-2).toNat,by omega⟩
   obtain⟨f,s,c⟩:=r
   simp at hk
   subst hk
   have e:B9 ⟨f,s,(k:Int)+2⟩=f::(f+s)::(List.range k).map fun(i:Nat)=>(f+s)+s*((i:Int)+1):=by
    unfold B9
    simp only[]
    rw[show ((k:Int)+2).toNat=k+1+1 by omega,List.range_succ_eq_map,List.map_cons,List.map_map,List.range_succ_eq_map,List.map_cons,List.map_map]
    congr 1
    ·simp
    ·congr 1
     ·simp[Function.comp]
     ·apply List.map_congr_left
      intro i _
      show f+s*((i+1+1:Nat):Int)=_
      rw[show ((i+1+1:Nat):Int)=1+((i:Int)+1) by omega,Int.mul_add,Int.mul_one]
      omega
   have hx:Di s (f+s) ((List.range k).map (fun(i:Nat)=>(f+s)+s*((i:Int)+1))++Af l)=k:=Wc s k (f+s) _ fun x hx=>by
    cases l with
    |nil=>simp[Af] at hx
    |cons q l=>
     obtain⟨⟨h2,h3⟩,-⟩:=hc.1 q rfl
     have hq:=he q (by simp)
     have:(Af (q::l)).head? =some q.f:=by
      obtain⟨j,hj⟩:∃j:Nat,q.c.toNat=j+1:=⟨q.c.toNat-1,by have:=hq.c0;omega⟩
      show (B9 q++Af l).head? =_
      unfold B9
      rw[hj,List.range_succ_eq_map]
      simp
     rw[this] at hx
     cases hx
     unfold Cs at h3
     simp only[] at h3
     rw[show (k:Int)+2-1=1+(k:Int) by omega,Int.mul_add,Int.mul_one] at h3
     intro h4;apply h3;omega
   show ofL (B9 _++Af l)=_
   rw[e,List.cons_append,List.cons_append,Jm,show f+s-f=s by omega,hx,List.drop_left' (by simp),ih]
   simp
def T3 (r:Ah):Bool:=decide (1<=r.c)&&decide (r.c<=256)&&decide (0<=r.s)&&decide (r.s<=281474976710656)&&decide (0<=r.f)&&decide (r.f<=281474976710656)
def fitL (l:List Ah):Bool:=l.all T3&&decide (cnt l<=256)
def Ek (l:List Ah):List Int:=if fitL l then Af l else []
def Fj (t:List Int):Bool:=decide (1<=t.length)&&decide (t.length<=256)&&decide (t.Pairwise (·<·))&&t.all fun x=>decide (0<=x)&&decide (x<=281474976710656)
theorem Ho (t:List Int):Fj t=true↔1<=t.length/\t.length<=256/\Gv t:=by
 unfold Fj
 simp only[Bool.and_eq_true,decide_eq_true_eq,List.all_eq_true]
 constructor
 ·rintro⟨⟨⟨a,b⟩,c⟩,d⟩;exact⟨a,b,c,d⟩
 ·rintro⟨a,b,c,d⟩;exact⟨⟨⟨a,b⟩,c⟩,d⟩
def X8 (l:List Ah):Bool:=Fj (Ek l)&&decide (ofL (Ek l)=l)
theorem fit_ok {l:List Ah} (h:Ce l):fitL l=true:=by
 unfold fitL
 simp only[Bool.and_eq_true,decide_eq_true_eq,List.all_eq_true]
 refine⟨fun r hr=> ?_,h.count⟩
 have:=h.each r hr
 have a:=this.f0;have b:=this.f1;have c:=this.s0;have d:=this.s1;have e:=this.c0;have f:=this.c1
 unfold T3
 simp[a,b,c,d,e,f]
theorem U4 {l:List Ah} (h:Ce l):Ek l=Af l:=by unfold Ek;rw[if_pos (fit_ok h)]
theorem rising_ok {l:List Ah} (h:Ce l):Gv (Af l):=⟨Hc l h.each h.chain,Qe l h⟩
theorem cnt_one {l:List Ah} (h:Ce l):1<=cnt l:=by
 have:=Uc l fun r hr=>(h.each r hr).c0
 have:=h.some'
 omega
theorem rightR_is (l:List Ah):X8 l=Fe l:=by
 rw[Bool.eq_iff_iff,D1]
 unfold X8
 rw[Bool.and_eq_true,Ho,decide_eq_true_eq]
 constructor
 ·rintro⟨⟨h1,h2,h3⟩,h4⟩
  rw[<-h4]
  exact of_runs h3 (by omega) h2
 ·intro h
  have hn:=Mi h.each
  have:=cnt_one h
  have:=h.count
  rw[U4 h]
  exact⟨⟨by omega,by omega,rising_ok h⟩,Vr l h.each h.chain⟩
theorem Tryz.infoI64 :(Tryz.prog.info? 2).map (fun i=>(i.zero,i.size,i.bytes))=some (some (.int .i64 0),1,8):=by kernel_rfl
def tiRel (w:World) (p:Option Addr) (l:List Ah) (cap:Nat) (a':Act) (W:World):Prop:=
 Below w.heap.size w W/\∃(i:Nat) (T:List Int) (v:Value),(∃u:Nat->Value,a'= {tmps:= #[.slice p l.length cap,u 1,.slice none 0 0,v,.int .i64 (i:Int),u 5,u 6,u 7,u 8,u 9,u 10,u 11,u 12,u 13,u 14,u 15,u 16,u 17,u 18,u 19,u 20,u 21,u 22,u 23,u 24,u 25,u 26,u 27,u 28,u 29,u 30,u 31,u 32,u 33,u 34,u 35,u 36,u 37,u 38,u 39,u 40,u 41,u 42,u 43,u 44,u 45,u 46,u 47,u 48,u 49,u 50,u 51,u 52,u 53,u 54,u 55,u 56,u 57,u 58,u 59,u 60,u 61,u 62,u 63,u 64,u 65,u 66,u 67,u 68,u 69],defers:= []})/\
  Bp W w.heap.size 2 1 v T.length (T.map (Value.int .i64))/\T=Af (l.take i)/\i<=l.length/\(∀r,r∈l.take i->T3 r=true)/\cnt (l.take i)<=256
def tjRel (w:World) (p:Option Addr) (l:List Ah) (cap i:Nat) (T:List Int) (r:Ah) (g:Nat) (a':Act) (W:World):Prop:=
 Below w.heap.size w W/\Blk W g #[r.f,r.s,r.c] 144/\∃(k:Nat) (T1:List Int) (v:Value),(∃u:Nat->Value,a'= {tmps:= #[.slice p l.length cap,u 1,.slice none 0 0,v,.int .i64 (i:Int),.pointer (some ⟨g,0,none⟩),.int .i64 (k:Int),u 7,u 8,u 9,u 10,u 11,u 12,u 13,u 14,u 15,u 16,u 17,u 18,u 19,u 20,u 21,u 22,u 23,u 24,u 25,u 26,u 27,u 28,u 29,u 30,u 31,u 32,u 33,u 34,u 35,u 36,u 37,u 38,u 39,u 40,u 41,u 42,u 43,u 44,u 45,u 46,u 47,u 48,u 49,u 50,u 51,u 52,u 53,u 54,u 55,u 56,u 57,u 58,u 59,u 60,u 61,u 62,u 63,u 64,u 65,u 66,u 67,u 68,u 69],defers:= []})/\
  Bp W w.heap.size 2 1 v T1.length (T1.map (Value.int .i64))/\T1=T++(List.range k).map (fun(j:Nat)=>r.f+r.s*(j:Int))/\(k:Int)<=r.c
theorem Q7 :∀(l:List Ah) (k:Nat),(∀r,r∈l->1<=r.c)->cnt (l.take k)<=cnt l
 | [],k,_=>by simp
 |r::l,0,h=>by
  have:=Uc (r::l) h
  simp[cnt] at this⊢
  have:cnt ([]:List Ah)=0:=rfl
  omega
 |r::l,k+1,h=>by
  have:=Q7 l k fun q hq=>h q (by simp[hq])
  simp only[List.take_succ_cons,cnt]
  omega
theorem Ms (p:Option Addr) (cap:Nat) (l:List Ah) (w:World) (h:Ai w p l) (hlen:l.length<=1000):
  Calls Tryz.prog 85 #[.slice p l.length cap] w fun e w'=>∃v,e= .returned v/\Bp w' w.heap.size 2 1 v (Ek l).length ((Ek l).map (Value.int .i64))/\Below w.heap.size w w':=by
 obtain⟨i0,hi,hz0,hz1,hz2⟩:=info_parts Tryz.infoI64
 go_enter Tryz.func85,Tryz.ntmps85
 go_wp2
 refine wp_loop (tiRel w p l cap) (fun a' _=>l.length-(Ak (a'.tmps.getD 4 undef)).toNat) ?_ ?_
 ·unfold tiRel
  exact⟨Below.refl _ _,0,[],_,Ac rfl,Bp.nil _ _ _ _,by simp[Af],by omega,by simp,by simp[cnt]⟩
 ·rintro a' W ⟨hW0,i,T,v,⟨u,rfl⟩,hown,hT,hi',hfit,hcnt⟩
  have hz:=hW0.size
  obtain⟨pv,cv,rfl,hcv,hcm,-,-⟩:=hown.form
  have hTl:(T.length:Int)=cnt (l.take i):=by
   rw[hT];exact Cu _ fun r hr=>by have:=hfit r hr;unfold T3 at this;simp at this;omega
  have hT256:T.length<=256:=by omega
  replace hT:=Hd hT
  replace hfit:=Hd hfit
  replace hcnt:=Hd hcnt
  replace hTl:=Hd hTl
  rcases Nat.lt_or_ge i l.length with hlt|hge
  ·obtain⟨r,hri⟩:∃r,l[i]? =some r:=⟨l[i]'(by omega),List.getElem?_eq_getElem (by omega)⟩
   obtain⟨b,o,rfl,k0,k1,k2⟩:=(h.below hW0).at' i r hri
   replace hri:=Hd hri
   obtain⟨S,hS⟩:∃S,wrap64 ((T.length:Int)+r.c)=S:=⟨_,rfl⟩
   replace hS:=Hd hS
   go_upto_region 6 with(fail)
   refine Ad W (Bc W.heap.size #[r.f,r.s,r.c] 144<|Rc (fun W'=>Bp W' w.heap.size 2 1 (.slice pv T.length cv) T.length (T.map (Value.int .i64)))<|Bz) ?_ (hI:=by exact Aa) (hR:=(Bc.mk (by exact Ab)<|Rc.mk (by exact hown.below Aa)<|trivial))
   rintro W1 hW z2 hL
   obtain⟨⟨b1,yb1,k1,f1⟩,b2,-⟩:=id hL
   clear k1 f1
   refine B3 36 70 hW hL ?_
   iterate 4 refine dE (fun W' hC=>hS.out) ?_
   iterate 3 refine gE (fun W' hC=>hS.out) ?_
   refine pO ?_
   refine dE (fun W' hC=>hS.out) ?_
   iterate 6 refine gE (fun W' hC=>hS.out) ?_
   refine pO ?_
   refine dE (fun W' hC=>hS.out) ?_
   iterate 3 refine gE (fun W' hC=>hS.out) ?_
   refine pO ?_
   refine dE (fun W' hC=>hS.out) ?_
   iterate 3 refine gE (fun W' hC=>hS.out) ?_
   refine pO ?_
   refine dE (fun W' hC=>hS.out) ?_
   iterate 3 refine gE (fun W' hC=>hS.out) ?_
   refine pO ?_
   refine dE (fun W' hC=>hS.out) ?_
   iterate 3 refine gE (fun W' hC=>hS.out) ?_
   refine pO ?_
   clear hW hL b1 b2
   rintro W3 hW z4 hL
   simp only[ndR]
   intros
   simp only[ndS]
   refine wpList_nil ?_
   obtain⟨⟨b1,yb1,k1,f1⟩,b2,-⟩:=hL
   obtain⟨F,hF⟩:∃F,(decide (r.c<1)||decide (256<r.c)||decide (256<S)||decide (r.s<0)||decide (281474976710656<r.s)||decide (r.f<0)||decide (281474976710656<r.f))=F:=⟨_,rfl⟩
   rw[hF]
   have hrt:=Hd (show (l.take (i+1))=l.take i++ [r] by rw[List.take_succ_eq_append_getElem hlt];have:=hri.out;rw[List.getElem?_eq_getElem hlt] at this;injection this with this;rw[this])
   cases F with
   |true=>
    have hG:Ek l= []:=by
     unfold Ek
     rw[if_neg]
     intro hh
     unfold fitL at hh
     simp only[Bool.and_eq_true,List.all_eq_true,decide_eq_true_eq] at hh
     have hr:=hh.1 r (List.mem_of_getElem? hri.out)
     unfold T3 at hr
     simp at hr
     simp at hF
     have hc2:=Q7 l (i+1) fun q hq=>by have:=hh.1 q hq;unfold T3 at this;simp at this;omega
     rw[hrt.out,Ge] at hc2
     simp only[cnt] at hc2
     have h3:=hTl.out
     have h4:=hS.out
     rw[Al] at h4
     omega
    clear hF
    replace hG:=Hd hG
    go_wp2
    go_ret
    exact⟨_,rfl,by rw[hG.out];exact Bp.nil _ _ _ _,hW0.trans (hW.mono hz)⟩
   |false=>
    simp only[Bool.or_eq_false_iff,decide_eq_false_iff_not] at hF
    obtain⟨⟨⟨⟨⟨⟨f1,f2⟩,f3⟩,f4⟩,f5⟩,f6⟩,f7⟩:=hF
    have hSS:S=T.length+r.c:=by have h4:=hS.out;rw[Al] at h4;omega
    clear hS
    subst hSS
    have zb:=b1.lt
    have zz:=Nat.le_trans hz hW.size
    have hB1:=hW0.trans (hW.mono hz)
    clear hW hown k0 k1 k2
    go_wp2
    refine wp_loop (tjRel w (some ⟨b,o,none⟩) l cap i T r W.heap.size) (fun a' _=>r.c.toNat-(Ak (a'.tmps.getD 6 undef)).toNat) ?_ ?_
    ·unfold tjRel
     exact⟨hB1,b1,0,T,_,Ac rfl,b2,by simp,by omega⟩
    ·rintro a' W2 ⟨hW1,b1,k,T1,v,⟨u,rfl⟩,hown,hT1,hk⟩
     have ya1:=hW1.size
     have zb2:=b1.lt
     have hl1:T1.length=T.length+k:=by rw[hT1];simp
     have hl9:T1.length<=256:=by omega
     replace hT1:=Hd hT1
     replace hl1:=Hd hl1
     have k1:=b1.cell
     have g1:=b1.frozen
     rcases Int.lt_or_le (k:Int) r.c with hkc|hkc
     ·obtain⟨M,hM⟩:∃M,(k:Int)*r.s=M:=⟨_,rfl⟩
      have m0:0<=M:=hM▸Int.mul_nonneg (by omega) (by omega)
      have m1:M<=256*281474976710656:=hM▸Int.mul_le_mul (by omega) (by omega) (by omega) (by omega)
      have hown':=hown.own
      go_wp2_with (at_builtin;refine wpList_append_own _ rfl (.tmp 59) (.tmp 67) 96 rfl w.heap.size 2 i0 (.int .i64 0) 1 8 (by kernel_rfl) hi hz0 hz1 hz2 rfl (by decide) _ _ _ rfl (hown'.alloc _) ⟨W2.heap.size,0,none⟩ 1 1 [.int .i64 (r.f+M)] rfl rfl (cell_one_new _ _ _) (by simp[Value.oneCell']) (by simp[maxLen];omega) (by omega) (by simp;omega) ?_)
      intro v' w1 hown2 hgr _
      have hB:=Hd (A5 hW1 ya1 hown' hgr)
      have b2:=b1.grown hown' (by decide) hgr
      clear hgr hown' hown
      replace hown2:=Hd hown2
      clear b1 k1 g1
      go_wp2
      rw[show (k:Int)+1=((k+1:Nat):Int) by omega]
      refine⟨?_,by simp[Ak];omega⟩
      unfold tjRel
      exact⟨hB.out,b2,k+1,T1++ [r.f+M],v',Ac rfl,⟨by simpa using hown2.out⟩,by rw[hT1.out,List.range_succ,List.map_append,List.append_assoc,<-hM,Int.mul_comm];rfl,by omega⟩
     ·have hkc2:(k:Int)=r.c:=by omega
      have hTT:=Hd (show T1=Af (l.take (i+1)) by
       rw[hrt.out,Dn,hT1.out,<-hT.out]
       show _=T++(B9 r++ [])
       rw[List.append_nil]
       unfold B9
       rw[show r.c.toNat=k by omega])
      have hfit2:=Hd (show∀q,q∈l.take (i+1)->T3 q=true by
       intro q hq
       rw[hrt.out] at hq
       rcases List.mem_append.1 hq with hq|hq
       ·exact hfit.out q hq
       ·rw[List.mem_singleton.1 hq]
        unfold T3
        simp
        omega)
      have hcnt2:=Hd (show cnt (l.take (i+1))<=256 by
       rw[hrt.out,Ge,<-hTl.out]
       simp only[cnt]
       omega)
      clear hkc2 f3
      go_wp2
      rw[show (i:Int)+1=((i+1:Nat):Int) by omega]
      refine⟨?_,by simp[Ak];omega⟩
      unfold tiRel
      exact⟨hW1,i+1,T1,v,Ac rfl,hown,hTT.out,by omega,hfit2.out,hcnt2.out⟩
  ·obtain rfl:i=l.length:=by omega
   have hG:Ek l=T:=by
    unfold Ek fitL
    have h1:=hfit.out
    have h2:=hcnt.out
    rw[List.take_length] at h1 h2
    rw[if_pos (by simp only[Bool.and_eq_true,List.all_eq_true,decide_eq_true_eq];exact⟨h1,h2⟩),hT.out,List.take_length]
   replace hG:=Hd hG
   go_wp2
   go_ret
   exact⟨_,rfl,by rw[hG.out];exact hown,hW0⟩
structure Xh (T:List Int) (n:Nat):Prop where
 lo:∀(k:Nat) (x:Int),k<n->T[k]? =some x->0<=x/\x<=281474976710656
 up:∀(k:Nat) (x y:Int),k+1<n->T[k]? =some x->T[k+1]? =some y->x<y
theorem Xh.pair :∀ {T:List Int},Xh T T.length->T.Pairwise (·<·)
 | [],_=>List.Pairwise.nil
 | [a],_=>by simp
 |a::b::l,h=>by
  have ht:Xh (b::l) (b::l).length:=⟨fun k x hk hx=>h.lo (k+1) x (by simp at hk⊢;omega) (by simpa using hx),fun k x y hk hx hy=>h.up (k+1) x y (by simp at hk⊢;omega) (by simpa using hx) (by simpa using hy)⟩
  have ih:=ht.pair
  have hab:a<b:=h.up 0 a b (by simp) (by simp) (by simp)
  refine List.pairwise_cons.2 ⟨fun c hc=> ?_,ih⟩
  rcases List.mem_cons.1 hc with rfl|hc
  ·exact hab
  ·have:=(List.pairwise_cons.1 ih).1 c hc;omega
theorem Xh.rising {T:List Int} (h:Xh T T.length) (h0:1<=T.length) (h1:T.length<=256):Fj T=true:=
 (Ho T).2 ⟨h0,h1,h.pair,fun x hx=>by
  obtain⟨k,hk⟩:=List.getElem?_of_mem hx
  exact h.lo k x (List.getElem?_eq_some_iff.1 hk).1 hk⟩
theorem J2 {T:List Int} (h:¬(1<=T.length/\T.length<=256/\Gv T)):Fj T=false:=by
 rcases hb:Fj T with _|_
 ·rfl
 ·exact absurd ((Ho T).1 hb) h
def Tg (w:World) (b o cap:Nat) (T:List Int) (a':Act) (W:World):Prop:=
 Below w.heap.size w W/\∃(i:Nat),(∃u:Nat->Value,a'= {tmps:= #[.slice (some ⟨b,o,none⟩) T.length cap,u 1,.bool false,.int .i64 (i:Int),u 4,u 5,u 6,u 7,u 8,u 9,u 10,u 11,u 12,u 13,u 14,u 15,u 16,u 17,u 18,u 19,u 20,u 21,u 22,u 23,u 24,u 25,u 26,u 27,u 28,u 29,u 30,u 31,u 32,u 33,u 34,u 35,u 36,u 37,u 38,u 39,u 40,u 41,u 42,u 43,u 44,u 45],defers:= []})/\i<=T.length/\Xh T i
theorem Pp (p:Option Addr) (cap:Nat) (T:List Int) (w:World) (hlen:T.length<=1000000) (hT0:Au w p T):
  Cb 211 #[.slice p T.length cap] w (.bool (Fj T)):=by
 go_enter Tryz.func211,Tryz.ntmps211
 rcases Nat.lt_or_ge T.length 1 with h1|h1
 ·have hr:=J2 (T:=T) (by omega)
  rw[hr]
  clear hr
  go_wp2
  go_ret
  exact⟨rfl,Below.refl _ _⟩
 rcases Nat.lt_or_ge 256 T.length with h2|h2
 ·have hr:=J2 (T:=T) (by omega)
  rw[hr]
  clear hr
  go_wp2
  go_ret
  exact⟨rfl,Below.refl _ _⟩
 obtain⟨b,o,rfl⟩:∃b o,p=some ⟨b,o,none⟩:=by
  obtain⟨b,o,e,_⟩:=hT0.at' 0 _ (List.getElem?_eq_getElem (show 0<T.length by omega))
  exact⟨b,o,e⟩
 go_wp2
 refine wp_loop (Tg w b o cap T) (fun a' _=>T.length-(Ak (a'.tmps.getD 3 undef)).toNat) ?_ ?_
 ·unfold Tg
  exact⟨Below.refl _ _,0,Ac rfl,by omega,⟨fun k x hk=>by omega,fun k x y hk=>by omega⟩⟩
 ·rintro a' W ⟨hW0,i,⟨u,rfl⟩,hi',hup⟩
  have hz:=hW0.size
  have hT:C8 W b o T:=⟨hT0.below hW0⟩
  replace hup:=Hd hup
  rcases Nat.lt_or_ge i T.length with hlt|hge
  ·obtain⟨x,tx⟩:∃x,T[i]? =some x:=⟨T[i]'(by omega),List.getElem?_eq_getElem (by omega)⟩
   replace tx:=Hd tx
   rcases Nat.eq_zero_or_pos i with hi0|hi0
   ·have e10:=Hd (show decide (0<(i:Int))=false by simp;omega)
    replace hi0:=Hd hi0
    go_upto_region 6 with(fail)
    refine Ad W (Rc (fun W'=>C8 W' b o T)<|Bz) ?_ (hI:=by exact Aa) (hR:=(Rc.mk (by exact hT.below Aa)<|trivial))
    rintro W1 hW z2 hL
    obtain⟨b1,-⟩:=id hL
    refine C2 28 46 hW hL ?_
    iterate 6 refine dE (fun W' hC=>aI (hC.2.1.cellAt tx.out) (aI hlt e10.out)) ?_
    iterate 5 refine gE (fun W' hC=>aI (hC.2.1.cellAt tx.out) (aI hlt e10.out)) ?_
    refine pO ?_
    refine dE (fun W' hC=>aI (hC.2.1.cellAt tx.out) (aI hlt e10.out)) ?_
    iterate 3 refine gE (fun W' hC=>aI (hC.2.1.cellAt tx.out) (aI hlt e10.out)) ?_
    apply Am (p:=_) (c:=undef) (hg:=rfl) (hd:=rfl) (hal:=rfl)
    ·intro v W' h
     exact h
    ·intro hp hx
     exfalso
     simp at hx
     have:=hi0.out
     omega
    apply Am (p:=_) (c:=undef) (hg:=rfl) (hd:=rfl) (hal:=rfl)
    ·intro v W' h
     exact h
    ·intro hp hx
     exfalso
     simp at hx
     have:=hi0.out
     omega
    apply Am (p:=_) (c:=undef) (hg:=rfl) (hd:=rfl) (hal:=rfl)
    ·intro v W' h
     exact h
    ·intro hp hx
     exfalso
     simp at hx
     have:=hi0.out
     omega
    apply Am (p:=_) (c:=undef) (hg:=rfl) (hd:=rfl) (hal:=rfl)
    ·intro v W' h
     exact h
    ·intro hp hx
     exfalso
     simp at hx
     have:=hi0.out
     omega
    apply Am (p:=_) (c:=undef) (hg:=rfl) (hd:=rfl) (hal:=rfl)
    ·intro v W' h
     exact h
    ·intro hp hx
     exfalso
     simp at hx
     have:=hi0.out
     omega
    apply Am (p:=_) (c:=undef) (hg:=rfl) (hd:=rfl) (hal:=rfl)
    ·intro v W' h
     exact h
    ·intro hp hx
     exfalso
     simp at hx
     have:=hi0.out
     omega
    apply Am (p:=_) (c:=undef) (hg:=rfl) (hd:=rfl) (hal:=rfl)
    ·intro v W' h
     exact h
    ·intro hp hx
     exfalso
     simp at hx
     have:=hi0.out
     omega
    apply Am (p:=_) (c:=undef) (hg:=rfl) (hd:=rfl) (hal:=rfl)
    ·intro v W' h
     exact h
    ·intro hp hx
     exfalso
     simp at hx
     have:=hi0.out
     omega
    apply Am (p:=_) (c:=undef) (hg:=rfl) (hd:=rfl) (hal:=rfl)
    ·intro v W' h
     exact h
    ·intro hp hx
     exfalso
     simp at hx
     have:=hi0.out
     omega
    apply Am (p:=_) (c:=undef) (hg:=rfl) (hd:=rfl) (hal:=rfl)
    ·intro v W' h
     exact h
    ·intro hp hx
     exfalso
     simp at hx
     have:=hi0.out
     omega
    apply Gy (y:=false) (p:=true) (ho:=rfl) (hg:=rfl) (hd:=rfl)
    ·intro v W' h
     simp[Aj,Det] at h
     simp
     exact h
    ·intro _ hx v W' h
     simp[Aj,Det,Ao,hx] at h
     exact h
    ·intro hp hx v W' h hy
     exfalso
     simp at hy
     have:=hi0.out
     omega
    refine pO ?_
    clear hW hL b1
    rintro W3 hW z4 hL
    simp only[ndR]
    intros
    repeat (rename Ao _ _ _ _=>hgd;clear hgd)
    simp only[ndS]
    refine wpList_nil ?_
    obtain⟨b1,-⟩:=hL
    obtain⟨F,hF⟩:∃F,(decide (x<0)||decide (281474976710656<x)||false)=F:=⟨_,rfl⟩
    rw[hF]
    cases F with
    |true=>
     have hr:=Hd (show Fj T=false from J2 (fun hh=>by
      have h3:=hh.2.2.lo x (List.mem_of_getElem? tx.out)
      simp at hF;omega))
     clear hF
     go_wp2
     go_ret
     exact⟨by rw[hr.out];rfl,hW0.trans (hW.mono hz)⟩
    |false=>
     have hup':=Hd (show Xh T (i+1) from ⟨fun k v hk hv=>by
       rcases Nat.lt_or_ge k i with h|h
       ·exact hup.out.lo k v h hv
       ·obtain rfl:k=i:=by omega
        rw[tx.out] at hv
        injection hv with hv
        subst hv
        simp at hF;omega,fun k v v' hk hv hw=>by
       rcases Nat.lt_or_ge (k+1) i with h|h
       ·exact hup.out.up k v v' h hv hw
       ·have e:k+1=i:=by omega
        have:=hi0.out;omega⟩)
     clear hF
     go_wp2
     rw[show (i:Int)+1=((i+1:Nat):Int) by omega]
     refine⟨?_,by simp[Ak];omega⟩
     unfold Tg
     exact⟨hW0.trans (hW.mono hz),i+1,Ac rfl,by omega,hup'.out⟩
   ·obtain⟨y,ty⟩:∃y,T[i-1]? =some y:=⟨T[i-1]'(by omega),List.getElem?_eq_getElem (by omega)⟩
    replace ty:=Hd ty
    have e8:=Hd (show wrap64 ((i:Int)-1)=((i-1:Nat):Int) by rw[Al];omega)
    have e9:i-1<T.length:=by omega
    have e10:=Hd (show decide (0<(i:Int))=true by simp;omega)
    go_upto_region 6 with(fail)
    refine Ad W (Rc (fun W'=>C8 W' b o T)<|Bz) ?_ (hI:=by exact Aa) (hR:=(Rc.mk (by exact hT.below Aa)<|trivial))
    rintro W1 hW z2 hL
    obtain⟨b1,-⟩:=id hL
    refine C2 28 46 hW hL ?_
    iterate 6 refine dE (fun W' hC=>aI (hC.2.1.cellAt tx.out) (aI (hC.2.1.cellAt ty.out) (aI e8.out (aI e9 (aI e10.out hlt))))) ?_
    iterate 5 refine gE (fun W' hC=>aI (hC.2.1.cellAt tx.out) (aI (hC.2.1.cellAt ty.out) (aI e8.out (aI e9 (aI e10.out hlt))))) ?_
    refine pO ?_
    refine dE (fun W' hC=>aI (hC.2.1.cellAt tx.out) (aI (hC.2.1.cellAt ty.out) (aI e8.out (aI e9 (aI e10.out hlt))))) ?_
    iterate 3 refine gE (fun W' hC=>aI (hC.2.1.cellAt tx.out) (aI (hC.2.1.cellAt ty.out) (aI e8.out (aI e9 (aI e10.out hlt))))) ?_
    iterate 10 refine gF (fun W' hC=>aI (hC.2.1.cellAt tx.out) (aI (hC.2.1.cellAt ty.out) (aI e8.out (aI e9 (aI e10.out hlt))))) ?_
    refine pgA ?_
    refine pO ?_
    clear hW hL b1
    rintro W3 hW z4 hL
    simp only[ndR]
    intros
    repeat (rename Ao _ _ _ _=>hgd;clear hgd)
    simp only[ndS]
    refine wpList_nil ?_
    obtain⟨b1,-⟩:=hL
    obtain⟨F,hF⟩:∃F,(decide (x<0)||decide (281474976710656<x)||decide (0<i)&&decide (x<=y))=F:=⟨_,rfl⟩
    rw[hF]
    cases F with
    |true=>
     have hr:=Hd (show Fj T=false from J2 (fun hh=>by
      have h3:=hh.2.2.lo x (List.mem_of_getElem? tx.out)
      have h4:=List.pairwise_iff_getElem.1 hh.2.2.up (i-1) i e9 hlt (by omega);have t1:=tx.out;have t2:=ty.out;rw[List.getElem?_eq_getElem hlt] at t1;rw[List.getElem?_eq_getElem e9] at t2;injection t1 with t1;injection t2 with t2;rw[t1,t2] at h4;simp at hF;omega))
     clear hF
     go_wp2
     go_ret
     exact⟨by rw[hr.out];rfl,hW0.trans (hW.mono hz)⟩
    |false=>
     have hup':=Hd (show Xh T (i+1) from ⟨fun k v hk hv=>by
       rcases Nat.lt_or_ge k i with h|h
       ·exact hup.out.lo k v h hv
       ·obtain rfl:k=i:=by omega
        rw[tx.out] at hv
        injection hv with hv
        subst hv
        simp at hF;omega,fun k v v' hk hv hw=>by
       rcases Nat.lt_or_ge (k+1) i with h|h
       ·exact hup.out.up k v v' h hv hw
       ·have e:k+1=i:=by omega
        rw[e,tx.out] at hw;rw[show k=i-1 by omega,ty.out] at hv;injection hv with hv;injection hw with hw;subst hv;subst hw;simp at hF;omega⟩)
     clear hF
     go_wp2
     rw[show (i:Int)+1=((i+1:Nat):Int) by omega]
     refine⟨?_,by simp[Ak];omega⟩
     unfold Tg
     exact⟨hW0.trans (hW.mono hz),i+1,Ac rfl,by omega,hup'.out⟩
  ·obtain rfl:i=T.length:=by omega
   have hr:=Hd (hup.out.rising h1 h2)
   go_wp2
   go_ret
   exact⟨by rw[hr.out];rfl,hW0⟩
theorem Dd (W:World) (a b c:Value) (t:TypeId) (j:Nat) (u:Value) (h: [a,b,c][j]? =some u):(W.alloc (.cells #[a,b,c] t)).cell? ((⟨W.heap.size,0,none⟩:Addr).add j)=some u:=by
 have hb:Blk (W.alloc (.cells #[a,b,c] t)) W.heap.size #[a,b,c] t:=Blk.new' rfl
 have hadd:(⟨W.heap.size,0,none⟩:Addr).add j=⟨W.heap.size,j,none⟩:=by unfold Addr.add;split<;>simp_all
 rw[hadd,hb.cell]
 simpa using h
theorem Dc (L:List Ah) (r:Ah):As (L++ [r])=As L++ [.int .i64 r.f,.int .i64 r.s,.int .i64 r.c]:=by
 induction L with
 |nil=>rfl
 |cons q L ih=>simp only[List.cons_append,As,ih]
theorem drop_two {T:List Int} {i:Nat} {a b:Int} (ha:T[i]? =some a) (hb:T[i+1]? =some b):T.drop i=a::b::T.drop (i+2):=by
 obtain⟨h1,rfl⟩:=List.getElem?_eq_some_iff.1 ha
 obtain⟨h2,rfl⟩:=List.getElem?_eq_some_iff.1 hb
 rw[List.drop_eq_getElem_cons h1,List.drop_eq_getElem_cons h2]
theorem of_step {T:List Int} {i j:Nat} {a b:Int} (ha:T[i]? =some a) (hb:T[i+1]? =some b) (hij:i+1<=j) (hx:Di (b-a) b (T.drop (i+2))=j-i-1):ofL (T.drop i)=⟨a,b-a,((j-i+1:Nat):Int)⟩::ofL (T.drop (j+1)):=by
 rw[drop_two ha hb,Jm,hx,List.drop_drop]
 congr 2
 ·rw[show j-i-1+2=j-i+1 by omega]
 ·congr 1;omega
theorem of_last {T:List Int} {i:Nat} {a:Int} (ha:T[i]? =some a) (hl:i+1=T.length):ofL (T.drop i)= [⟨a,0,1⟩]:=by
 obtain⟨h1,rfl⟩:=List.getElem?_eq_some_iff.1 ha
 rw[List.drop_eq_getElem_cons h1,List.drop_eq_nil_of_le (by omega),Lz]
theorem extn_on {T:List Int} {j:Nat} {x y s:Int} (hy:T[j+1]? =some y) (h:y-x=s):Di s x (T.drop (j+1))=Di s y (T.drop (j+2))+1:=by
 obtain⟨h1,rfl⟩:=List.getElem?_eq_some_iff.1 hy
 rw[List.drop_eq_getElem_cons h1]
 simp only[Di]
 rw[if_pos h]
theorem extn_off {T:List Int} {j:Nat} {x y s:Int} (hy:T[j+1]? =some y) (h:¬y-x=s):Di s x (T.drop (j+1))=0:=by
 obtain⟨h1,rfl⟩:=List.getElem?_eq_some_iff.1 hy
 rw[List.drop_eq_getElem_cons h1]
 simp only[Di]
 rw[if_neg h]
theorem extn_end {T:List Int} {j:Nat} {x s:Int} (h:j+1=T.length):Di s x (T.drop (j+1))=0:=by
 rw[List.drop_eq_nil_of_le (by omega)];rfl
def ofRel (w:World) (b o cap:Nat) (T:List Int) (a':Act) (W:World):Prop:=
 Below w.heap.size w W/\∃(i:Nat) (L:List Ah) (v:Value),(∃u:Nat->Value,a'= {tmps:= #[.slice (some ⟨b,o,none⟩) T.length cap,u 1,.slice none 0 0,v,.int .i64 (i:Int),u 5,u 6,u 7,u 8,u 9,u 10,u 11,u 12,u 13,u 14,u 15,u 16,u 17,u 18,u 19,u 20,u 21,u 22,u 23,u 24,u 25,u 26,u 27,u 28,u 29,u 30,u 31,u 32,u 33,u 34,u 35,u 36,u 37,u 38,u 39,u 40,u 41,u 42,u 43,u 44,u 45,u 46,u 47,u 48,u 49,u 50,u 51,u 52,u 53,u 54,u 55,u 56,u 57,u 58,u 59,u 60,u 61,u 62,u 63,u 64,u 65,u 66,u 67,u 68,u 69,u 70,u 71,u 72,u 73,u 74,u 75,u 76,u 77,u 78,u 79,u 80],defers:= []})/\
  Bp W w.heap.size 144 3 v L.length (As L)/\ofL T=L++ofL (T.drop i)/\i<=T.length/\L.length<=i
def ojRel (w:World) (b o cap:Nat) (T:List Int) (i:Nat) (v:Value) (L:List Ah) (s x1:Int) (a':Act) (W:World):Prop:=
 Below w.heap.size w W/\∃(j:Nat) (x:Int),(∃u:Nat->Value,a'= {tmps:= #[.slice (some ⟨b,o,none⟩) T.length cap,u 1,.slice none 0 0,v,.int .i64 (i:Int),.int .i64 (j:Int),u 6,u 7,u 8,u 9,u 10,u 11,u 12,u 13,u 14,u 15,u 16,u 17,u 18,u 19,u 20,u 21,u 22,u 23,u 24,u 25,u 26,u 27,u 28,u 29,u 30,u 31,u 32,u 33,u 34,u 35,u 36,u 37,u 38,u 39,u 40,u 41,u 42,u 43,u 44,u 45,u 46,u 47,u 48,u 49,u 50,u 51,u 52,u 53,u 54,u 55,u 56,u 57,u 58,u 59,u 60,u 61,u 62,u 63,u 64,u 65,u 66,u 67,u 68,u 69,u 70,u 71,u 72,u 73,u 74,u 75,u 76,u 77,u 78,u 79,u 80],defers:= []})/\
  Bp W w.heap.size 144 3 v L.length (As L)/\i+1<=j/\j<T.length/\T[j]? =some x/\Di s x1 (T.drop (i+2))=(j-i-1)+Di s x (T.drop (j+1))
theorem refof_w (b o cap:Nat) (T:List Int) (w:World) (hlen:T.length<=256) (hr:Gv T) (hT0:C8 w b o T):
  Calls Tryz.prog 212 #[.slice (some ⟨b,o,none⟩) T.length cap] w fun e w'=>∃v,e= .returned v/\Bp w' w.heap.size 144 3 v (ofL T).length (As (ofL T))/\Below w.heap.size w w':=by
 obtain⟨i0,hi,hz0,hz1,hz2⟩:=info_parts Tryz.infoRun
 have hbd:=Hd (fun(k:Nat) (x:Int) (h:T[k]? =some x)=>hr.lo x (List.mem_of_getElem? h))
 clear hr
 go_enter Tryz.func212,Tryz.ntmps212
 go_wp2
 refine wp_loop (ofRel w b o cap T) (fun a' _=>T.length-(Ak (a'.tmps.getD 4 undef)).toNat) ?_ ?_
 ·unfold ofRel
  exact⟨Below.refl _ _,0,[],_,Ac rfl,Bp.nil _ _ _ _,by simp,by omega,by simp⟩
 ·rintro a' W ⟨hW0,i,L,v,⟨u,rfl⟩,hown,hL,hi',hLi⟩
  have hz:=hW0.size
  have hT:=hT0.below hW0
  have hown':=hown.own
  replace hL:=Hd hL
  rcases Nat.lt_or_ge i T.length with hlt|hge
  ·obtain⟨a,ta⟩:∃a,T[i]? =some a:=⟨T[i]'(by omega),List.getElem?_eq_getElem (by omega)⟩
   have ba:=hbd.out i a ta
   rcases Nat.lt_or_ge (i+1) T.length with hlt1|hge1
   ·obtain⟨x1,tb⟩:∃x1,T[i+1]? =some x1:=⟨T[i+1]'(by omega),List.getElem?_eq_getElem (by omega)⟩
    have bb:=hbd.out (i+1) x1 tb
    replace ta:=Hd ta
    replace tb:=Hd tb
    clear hown'
    go_wp2
    refine wp_loop (ojRel w b o cap T i v L (x1-a) x1) (fun a' _=>T.length-(Ak (a'.tmps.getD 5 undef)).toNat) ?_ ?_
    ·unfold ojRel
     rw[show (i:Int)+1=((i+1:Nat):Int) by omega]
     exact⟨hW0,i+1,x1,Ac rfl,hown,by omega,hlt1,tb.out,by rw[show i+1-i-1=0 by omega,Nat.zero_add]⟩
    ·rintro a' W ⟨hW1,j,x,⟨u,rfl⟩,hown,hij,hjl,tx,hex⟩
     have ya:=hW1.size
     have hT:=hT0.below hW1
     have bx:=hbd.out j x tx
     replace tx:=Hd tx
     replace hex:=Hd hex
     have l1:=hlt
     have l2:=hlt1
     have l3:=hjl
     have E2:=Hd (show wrap64 (x1-a)=x1-a by rw[Al];omega)
     have E3:=Hd (show wrap64 ((j:Int)+1)=((j+1:Nat):Int) by rw[Al];omega)
     have E4:=Hd (show wrap64 ((i:Int)+1)=((i+1:Nat):Int) by rw[Al];omega)
     have G2:=Hd (show 0<=(i:Int)+1/\(i:Int)+1<(T.length:Int) by omega)
     rcases Nat.lt_or_ge (j+1) T.length with hj1|hj1
     ·obtain⟨y,ty⟩:∃y,T[j+1]? =some y:=⟨T[j+1]'(by omega),List.getElem?_eq_getElem (by omega)⟩
      have by':=hbd.out (j+1) y ty
      replace ty:=Hd ty
      have l4:=hj1
      have G1:=Hd (show 0<=(j:Int)+1/\(j:Int)+1<(T.length:Int) by omega)
      have E1:=Hd (show wrap64 (y-x)=y-x by rw[Al];omega)
      have E5:=Hd (show decide (((j+1:Nat):Int)<(T.length:Int))=true by simp;omega)
      go_upto_region 8 with(fail)
      refine Ad W (Rc (fun W'=>C8 W' b o T)<|Rc (fun W'=>Bp W' w.heap.size 144 3 v L.length (As L))<|Bz) ?_ (hI:=by exact Aa) (hR:=(Rc.mk (by exact hT.below Aa)<|Rc.mk (by exact hown.below Aa)<|trivial))
      rintro W1 hW z2 hL
      obtain⟨b1,b2,-⟩:=id hL
      refine C2 28 81 hW hL ?_
      iterate 6 refine dE (fun W' hC=>aI (hC.2.1.cellAt ta.out) (aI (hC.2.1.cellAt tb.out) (aI (hC.2.1.cellAt tx.out) (aI (hC.2.1.cellAt ty.out) (aI E1.out (aI E2.out (aI E3.out (aI E4.out (aI l1 (aI l2 (aI l3 (aI l4 (aI E5.out (aI G1.out G2.out)))))))))))))) ?_
      iterate 21 refine gE (fun W' hC=>aI (hC.2.1.cellAt ta.out) (aI (hC.2.1.cellAt tb.out) (aI (hC.2.1.cellAt tx.out) (aI (hC.2.1.cellAt ty.out) (aI E1.out (aI E2.out (aI E3.out (aI E4.out (aI l1 (aI l2 (aI l3 (aI l4 (aI E5.out (aI G1.out G2.out)))))))))))))) ?_
      refine pA ?_
      clear hW hL b1 b2
      rintro W3 hW z4 hL
      simp only[ndR]
      intros
      simp only[ndS]
      refine wpList_nil ?_
      obtain⟨b1,b2,-⟩:=hL
      by_cases hs:y-x=x1-a
      ·
       rw[show (true&&y-x==x1-a)=true by simp[hs]]
       have hex':=Hd (show Di (x1-a) x1 (T.drop (i+2))=(j+1-i-1)+Di (x1-a) y (T.drop (j+1+1)) by rw[hex.out,extn_on ty.out hs,show j+1+1=j+2 from rfl];omega)
       clear hs hex E1 E2 E3 E4 E5 G1 G2
       go_wp2
       rw[show (j:Int)+1=((j+1:Nat):Int) by omega]
       refine⟨?_,by simp[Ak];omega⟩
       unfold ojRel
       exact⟨hW1.trans (hW.mono ya),j+1,y,Ac rfl,b2,by omega,hj1,ty.out,hex'.out⟩
      ·rw[show (true&&y-x==x1-a)=false by simp[hs]]
       have hX:=Hd (show Di (x1-a) x1 (T.drop (i+2))=j-i-1 by rw[hex.out,extn_off ty.out hs,Nat.add_zero])
       clear hs hex E1 G1
       have hWc:=hW1.trans (hW.mono ya)
       have yb:=hWc.size
       clear hW hW1 ya
       have E6:=Hd (show wrap64 ((j:Int)-(i:Int))=((j-i:Nat):Int) by rw[Al];omega)
       have E7:=Hd (show wrap64 (((j-i:Nat):Int)+1)=((j-i+1:Nat):Int) by rw[Al];omega)
       go_upto_region 10 with(fail)
       refine Ad W3 (Rc (fun W'=>C8 W' b o T)<|Rc (fun W'=>Bp W' w.heap.size 144 3 v L.length (As L))<|Bz) ?_ (hI:=by exact Aa) (hR:=(Rc.mk (by exact b1.below Aa)<|Rc.mk (by exact b2.below Aa)<|trivial))
       rintro W11 hW z12 hL
       obtain⟨b1,b2,-⟩:=id hL
       refine Br 20 81 hW hL ?_
       iterate 20 refine dE (fun W' hC=>aI (hC.2.1.cellAt ta.out) (aI (hC.2.1.cellAt tb.out) (aI E2.out (aI E4.out (aI l1 (aI l2 (aI E6.out (aI E7.out G2.out)))))))) ?_
       clear hW hL b1 b2
       rintro W13 hW z14 hL
       simp only[ndR]
       intros
       simp only[ndS]
       obtain⟨b1,b2,-⟩:=hL
       have hWd:=hWc.trans (hW.mono yb)
       have yc:=hWd.size
       have hown':=b2.own
       clear hW b2 b1 E6 E7 E2 E3 E4 E5 G2 hown hT
       go_wp2_with (at_builtin;refine wpList_append_own _ rfl (.tmp 56) (.tmp 76) 93 rfl w.heap.size 144 i0 (.agg #[.int .i64 0,.int .i64 0,.int .i64 0]) 3 24 (by kernel_rfl) hi hz0 hz1 hz2 rfl (by decide) _ _ _ rfl (hown'.alloc _) ⟨W13.heap.size,0,none⟩ 1 1 [.int .i64 a,.int .i64 (x1-a),.int .i64 ((j-i+1:Nat):Int)] rfl rfl (Dd _ _ _ _ _) (by simp[Value.oneCell']) (by simp[maxLen];omega) (by omega) (by simp;omega) ?_)
       intro v' w1 hown2 hgr _
       have hB:=Hd (A5 hWd yc hown' hgr)
       have hOL:=Hd (show ofL T=(L++ [⟨a,x1-a,((j-i+1:Nat):Int)⟩])++ofL (T.drop (j+1)) by rw[hL.out,of_step ta.out tb.out hij hX.out,List.append_assoc];rfl)
       replace hown2:=Hd hown2
       clear hgr hown' hWd hWc hX
       go_wp2
       rw[show (j:Int)+1=((j+1:Nat):Int) by omega]
       refine⟨?_,by simp[Ak];omega⟩
       unfold ofRel
       exact⟨hB.out,j+1,L++ [⟨a,x1-a,((j-i+1:Nat):Int)⟩],v',Ac rfl,⟨by rw[Dc];simpa using hown2.out⟩,hOL.out,by omega,by simp;omega⟩
     ·have E5:=Hd (show decide (((j+1:Nat):Int)<(T.length:Int))=false by simp;omega)
      go_upto_region 8 with(fail)
      refine Ad W (Rc (fun W'=>C8 W' b o T)<|Rc (fun W'=>Bp W' w.heap.size 144 3 v L.length (As L))<|Bz) ?_ (hI:=by exact Aa) (hR:=(Rc.mk (by exact hT.below Aa)<|Rc.mk (by exact hown.below Aa)<|trivial))
      rintro W1 hW z2 hL
      obtain⟨b1,b2,-⟩:=id hL
      refine C2 28 81 hW hL ?_
      iterate 6 refine dE (fun W' hC=>aI E3.out E5.out) ?_
      apply Am (p:=true) (c:=undef) (hg:=rfl) (hd:=rfl) (hal:=rfl)
      ·intro v W' h
       simp[Aj,Det] at h
       simp
       exact h
      ·intro hp hx
       exfalso
       simp at hx
       omega
      apply Am (p:=true) (c:=undef) (hg:=rfl) (hd:=rfl) (hal:=rfl)
      ·intro v W' h
       simp[Aj,Det] at h
       simp
       exact h
      ·intro hp hx
       exfalso
       simp at hx
       omega
      apply Am (p:=true) (c:=undef) (hg:=rfl) (hd:=rfl) (hal:=rfl)
      ·intro v W' h
       simp[Aj,Det] at h
       simp
       exact h
      ·intro hp hx
       exfalso
       simp at hx
       omega
      apply Am (p:=true) (c:=undef) (hg:=rfl) (hd:=rfl) (hal:=rfl)
      ·intro v W' h
       simp[Aj,Det] at h
       simp
       exact h
      ·intro hp hx
       exfalso
       simp at hx
       omega
      apply Am (p:=true) (c:=undef) (hg:=rfl) (hd:=rfl) (hal:=rfl)
      ·intro v W' h
       simp[Aj,Det] at h
       simp
       exact h
      ·intro hp hx
       exfalso
       simp at hx
       omega
      apply Am (p:=true) (c:=undef) (hg:=rfl) (hd:=rfl) (hal:=rfl)
      ·intro v W' h
       simp[Aj,Det] at h
       simp
       exact h
      ·intro hp hx
       exfalso
       simp at hx
       omega
      apply Am (p:=true) (c:=undef) (hg:=rfl) (hd:=rfl) (hal:=rfl)
      ·intro v W' h
       simp[Aj,Det] at h
       simp
       exact h
      ·intro hp hx
       exfalso
       simp at hx
       omega
      apply Am (p:=true) (c:=undef) (hg:=rfl) (hd:=rfl) (hal:=rfl)
      ·intro v W' h
       simp[Aj,Det] at h
       simp
       exact h
      ·intro hp hx
       exfalso
       simp at hx
       omega
      apply Am (p:=true) (c:=undef) (hg:=rfl) (hd:=rfl) (hal:=rfl)
      ·intro v W' h
       simp[Aj,Det] at h
       simp
       exact h
      ·intro hp hx
       exfalso
       simp at hx
       omega
      apply Am (p:=true) (c:=undef) (hg:=rfl) (hd:=rfl) (hal:=rfl)
      ·intro v W' h
       simp[Aj,Det] at h
       simp
       exact h
      ·intro hp hx
       exfalso
       simp at hx
       omega
      apply Am (p:=true) (c:=undef) (hg:=rfl) (hd:=rfl) (hal:=rfl)
      ·intro v W' h
       simp[Aj,Det] at h
       simp
       exact h
      ·intro hp hx
       exfalso
       simp at hx
       omega
      apply Am (p:=true) (c:=undef) (hg:=rfl) (hd:=rfl) (hal:=rfl)
      ·intro v W' h
       simp[Aj,Det] at h
       simp
       exact h
      ·intro hp hx
       exfalso
       simp at hx
       omega
      apply Am (p:=true) (c:=undef) (hg:=rfl) (hd:=rfl) (hal:=rfl)
      ·intro v W' h
       simp[Aj,Det] at h
       simp
       exact h
      ·intro hp hx
       exfalso
       simp at hx
       omega
      apply Am (p:=true) (c:=undef) (hg:=rfl) (hd:=rfl) (hal:=rfl)
      ·intro v W' h
       simp[Aj,Det] at h
       simp
       exact h
      ·intro hp hx
       exfalso
       simp at hx
       omega
      apply Am (p:=true) (c:=undef) (hg:=rfl) (hd:=rfl) (hal:=rfl)
      ·intro v W' h
       simp[Aj,Det] at h
       simp
       exact h
      ·intro hp hx
       exfalso
       simp at hx
       omega
      apply Am (p:=true) (c:=undef) (hg:=rfl) (hd:=rfl) (hal:=rfl)
      ·intro v W' h
       simp[Aj,Det] at h
       simp
       exact h
      ·intro hp hx
       exfalso
       simp at hx
       omega
      apply Am (p:=true) (c:=undef) (hg:=rfl) (hd:=rfl) (hal:=rfl)
      ·intro v W' h
       simp[Aj,Det] at h
       simp
       exact h
      ·intro hp hx
       exfalso
       simp at hx
       omega
      apply Am (p:=true) (c:=undef) (hg:=rfl) (hd:=rfl) (hal:=rfl)
      ·intro v W' h
       simp[Aj,Det] at h
       simp
       exact h
      ·intro hp hx
       exfalso
       simp at hx
       omega
      apply Am (p:=true) (c:=undef) (hg:=rfl) (hd:=rfl) (hal:=rfl)
      ·intro v W' h
       simp[Aj,Det] at h
       simp
       exact h
      ·intro hp hx
       exfalso
       simp at hx
       omega
      apply Am (p:=true) (c:=undef) (hg:=rfl) (hd:=rfl) (hal:=rfl)
      ·intro v W' h
       simp[Aj,Det] at h
       simp
       exact h
      ·intro hp hx
       exfalso
       simp at hx
       omega
      apply Am (p:=true) (c:=undef) (hg:=rfl) (hd:=rfl) (hal:=rfl)
      ·intro v W' h
       simp[Aj,Det] at h
       simp
       exact h
      ·intro hp hx
       exfalso
       simp at hx
       omega
      apply Ch (y:=false) (ho:=rfl) (hg:=rfl)
      ·intro v W' h
       simp[Aj,Det] at h
       exact h
      ·intro v W' h hx
       exfalso
       simp at hx
       omega
      clear hW hL b1 b2
      rintro W3 hW z4 hL
      simp only[ndR]
      intros
      repeat (rename Ao _ _ _ _=>hgd;clear hgd)
      simp only[ndS]
      refine wpList_nil ?_
      obtain⟨b1,b2,-⟩:=hL
      rw[Bool.and_false]
      have hX:=Hd (show Di (x1-a) x1 (T.drop (i+2))=j-i-1 by rw[hex.out,extn_end (by omega),Nat.add_zero])
      clear hex
      have hWc:=hW1.trans (hW.mono ya)
      have yb:=hWc.size
      clear hW hW1 ya
      have E6:=Hd (show wrap64 ((j:Int)-(i:Int))=((j-i:Nat):Int) by rw[Al];omega)
      have E7:=Hd (show wrap64 (((j-i:Nat):Int)+1)=((j-i+1:Nat):Int) by rw[Al];omega)
      go_upto_region 10 with(fail)
      refine Ad W3 (Rc (fun W'=>C8 W' b o T)<|Rc (fun W'=>Bp W' w.heap.size 144 3 v L.length (As L))<|Bz) ?_ (hI:=by exact Aa) (hR:=(Rc.mk (by exact b1.below Aa)<|Rc.mk (by exact b2.below Aa)<|trivial))
      rintro W11 hW z12 hL
      obtain⟨b1,b2,-⟩:=id hL
      refine Br 20 81 hW hL ?_
      iterate 20 refine dE (fun W' hC=>aI (hC.2.1.cellAt ta.out) (aI (hC.2.1.cellAt tb.out) (aI E2.out (aI E4.out (aI l1 (aI l2 (aI E6.out (aI E7.out G2.out)))))))) ?_
      clear hW hL b1 b2
      rintro W13 hW z14 hL
      simp only[ndR]
      intros
      simp only[ndS]
      obtain⟨b1,b2,-⟩:=hL
      have hWd:=hWc.trans (hW.mono yb)
      have yc:=hWd.size
      have hown':=b2.own
      clear hW b2 b1 E6 E7 E2 E3 E4 E5 G2 hown hT
      go_wp2_with (at_builtin;refine wpList_append_own _ rfl (.tmp 56) (.tmp 76) 93 rfl w.heap.size 144 i0 (.agg #[.int .i64 0,.int .i64 0,.int .i64 0]) 3 24 (by kernel_rfl) hi hz0 hz1 hz2 rfl (by decide) _ _ _ rfl (hown'.alloc _) ⟨W13.heap.size,0,none⟩ 1 1 [.int .i64 a,.int .i64 (x1-a),.int .i64 ((j-i+1:Nat):Int)] rfl rfl (Dd _ _ _ _ _) (by simp[Value.oneCell']) (by simp[maxLen];omega) (by omega) (by simp;omega) ?_)
      intro v' w1 hown2 hgr _
      have hB:=Hd (A5 hWd yc hown' hgr)
      have hOL:=Hd (show ofL T=(L++ [⟨a,x1-a,((j-i+1:Nat):Int)⟩])++ofL (T.drop (j+1)) by rw[hL.out,of_step ta.out tb.out hij hX.out,List.append_assoc];rfl)
      replace hown2:=Hd hown2
      clear hgr hown' hWd hWc hX
      go_wp2
      rw[show (j:Int)+1=((j+1:Nat):Int) by omega]
      refine⟨?_,by simp[Ak];omega⟩
      unfold ofRel
      exact⟨hB.out,j+1,L++ [⟨a,x1-a,((j-i+1:Nat):Int)⟩],v',Ac rfl,⟨by rw[Dc];simpa using hown2.out⟩,hOL.out,by omega,by simp;omega⟩
   ·have hl1:i+1=T.length:=by omega
    have hfin:=Hd (of_last ta hl1)
    replace ta:=Hd ta
    have q1:=hT.cellAt ta.out
    go_wp2_with (at_builtin;refine wpList_append_own _ rfl (.tmp 15) (.tmp 21) 93 rfl w.heap.size 144 i0 (.agg #[.int .i64 0,.int .i64 0,.int .i64 0]) 3 24 (by kernel_rfl) hi hz0 hz1 hz2 rfl (by decide) _ _ _ rfl (hown'.alloc _) ⟨W.heap.size,0,none⟩ 1 1 [.int .i64 a,.int .i64 0,.int .i64 1] rfl rfl (Dd _ _ _ _ _) (by simp[Value.oneCell']) (by simp[maxLen];omega) (by omega) (by simp;omega) ?_)
    intro v' w1 hown2 hgr _
    have hB:=Hd (A5 hW0 hz hown' hgr)
    clear hgr hown' hown
    have hOL:=Hd (show ofL T=L++ [⟨a,0,1⟩] by rw[hL.out,hfin.out])
    replace hown2:=Hd hown2
    clear q1
    go_wp2
    go_ret
    exact⟨_,rfl,⟨by rw[hOL.out,Dc];simpa using hown2.out⟩,hB.out⟩
  ·obtain rfl:i=T.length:=by omega
   have hOL:=Hd (show ofL T=L by rw[hL.out,List.drop_eq_nil_of_le (Nat.le_refl _),J6,List.append_nil])
   go_wp2
   go_ret
   exact⟨_,rfl,by rw[hOL.out];exact hown,hW0⟩
attribute [local simp] Oper.looksAt Op.operands Call.operands Aj Det Ao
theorem Rn (l:List Ah):(Ek l).length<=256:=by
 unfold Ek
 split
 ·next h=>
  unfold fitL at h
  simp only[Bool.and_eq_true,List.all_eq_true,decide_eq_true_eq] at h
  have:=Cu l fun r hr=>by have:=h.1 r hr;unfold T3 at this;simp at this;omega
  omega
 ·simp
theorem length_of (T:List Int):(ofL T).length<=T.length:=by
 have key:∀(n:Nat) (T:List Int),T.length<=n->(ofL T).length<=T.length:=by
  intro n
  induction n with
  |zero=>intro T h;have:T= []:=List.length_eq_zero_iff.1 (by omega);subst this;simp[J6]
  |succ n ih=>
   intro T h
   match T,h with
   | [],_=>simp[J6]
   | [t],_=>simp[Lz]
   |a::b::l,h=>
    rw[Jm]
    have:=ih (l.drop (Di (b-a) b l)) (by simp at h⊢;omega)
    simp at this⊢
    omega
 exact key _ T (Nat.le_refl _)
structure Eb (w:World) (b o:Nat) (l:List Ah):Prop where
 runs:Ai w (some ⟨b,o,none⟩) l
theorem Eb.below {w w':World} {b o:Nat} {l:List Ah} (h:Eb w b o l) (hb:Below w.heap.size w w'):Eb w' b o l:=⟨h.runs.below hb⟩
theorem Eb.rex {L:List Nat} {w w':World} {b o:Nat} {l:List Ah} (h:Eb w b o l) (hr:Rex L w w') (hL:L= []):Eb w' b o l:=by subst hL;exact h.below hr.below
theorem Eb.drew {w:World} {b o:Nat} {l:List Ah} (h:Eb w b o l):Eb w.drew b o l:=⟨⟨h.runs.at'⟩⟩
theorem Eb.cellAt {w:World} {b o:Nat} {l:List Ah} (h:Eb w b o l) {i:Nat} {r:Ah} (hx:l[i]? =some r):
  w.cell? ⟨b,o+i*3,none⟩=some (r.f)/\w.cell? ⟨b,o+i*3+1,none⟩=some (r.s)/\w.cell? ⟨b,o+i*3+2,none⟩=some (r.c):=h.runs.cells hx
theorem P4 {a b c d e f:Int} {w:World}:((if a=b then (if c=d then (if e=f then Result.ok (Go.Next.value (Value.bool false)) w else Result.ok (Go.Next.value (Value.bool true)) w) else Result.ok (Go.Next.value (Value.bool true)) w) else Result.ok (Go.Next.value (Value.bool true)) w):Result Go.Next)=Result.ok (Go.Next.value (Value.bool (!(decide (a=b)&&decide (c=d)&&decide (e=f))))) w:=by
 by_cases h1:a=b<;>by_cases h2:c=d<;>by_cases h3:e=f<;>simp[h1,h2,h3]
def smRel (w:World) (p:Option Addr) (cap:Nat) (p':Option Addr) (cap':Nat) (A B:List Ah) (a':Act) (W:World):Prop:=
 Below w.heap.size w W/\∃(i:Nat),(∃u:Nat->Value,a'= {tmps:= #[.slice p A.length cap,.slice p' A.length cap',u 2,u 3,.bool false,.int .i64 (i:Int),u 6,u 7,u 8,u 9,u 10,u 11,u 12,u 13,u 14,u 15,u 16,u 17,u 18,u 19,u 20,u 21,u 22,u 23,u 24,u 25],defers:= []})/\i<=A.length/\∀k,k<i->A[k]? =B[k]?
theorem refsame_w (p:Option Addr) (cap:Nat) (p':Option Addr) (cap':Nat) (A B:List Ah) (w:World) (hl:A.length=B.length) (hlen:A.length<=1000000) (hA0:Ai w p A) (hB0:Ai w p' B):
  Cb 177 #[.slice p A.length cap,.slice p' A.length cap'] w (.bool (decide (A=B))):=by
 go_enter Tryz.func177,Tryz.ntmps177
 replace hl:=Hd hl
 go_wp2
 refine wp_loop (smRel w p cap p' cap' A B) (fun a' _=>A.length-(Ak (a'.tmps.getD 5 undef)).toNat) ?_ ?_
 ·unfold smRel
  exact⟨Below.refl _ _,0,Ac rfl,by omega,fun k hk=>by omega⟩
 ·rintro a' W ⟨hW0,i,⟨u,rfl⟩,hi',hall⟩
  have hz:=hW0.size
  replace hall:=Hd hall
  rcases Nat.lt_or_ge i A.length with hlt|hge
  ·obtain⟨r,tr⟩:∃r,A[i]? =some r:=⟨A[i]'(by omega),List.getElem?_eq_getElem (by omega)⟩
   obtain⟨q,tq⟩:∃q,B[i]? =some q:=⟨B[i]'(by have:=hl.out;omega),List.getElem?_eq_getElem (by have:=hl.out;omega)⟩
   obtain⟨b,o,rfl,-⟩:=hA0.at' i r tr
   obtain⟨b',o',rfl,-⟩:=hB0.at' i q tq
   have hA:Eb W b o A:=⟨hA0.below hW0⟩
   have hB:Eb W b' o' B:=⟨hB0.below hW0⟩
   replace tr:=Hd tr
   replace tq:=Hd tq
   have l1:=hlt
   have l2:i<B.length:=by have:=hl.out;omega
   go_upto_region 6 with(fail)
   refine Ad W (Rc (fun W'=>Eb W' b o A)<|Rc (fun W'=>Eb W' b' o' B)<|Bz) ?_ (hI:=by exact Aa) (hR:=(Rc.mk (by exact hA.below Aa)<|Rc.mk (by exact hB.below Aa)<|trivial))
   rintro W1 hW z2 hL
   obtain⟨b1,b2,-⟩:=id hL
   refine C2 9 26 hW hL ?_
   iterate 9
    apply Ag (hg:=rfl) (hal:=rfl)
    ·intro a W' hC hE
     obtain⟨_,k1,k2,-⟩:=hC
     obtain⟨q0,q1,q2⟩:=k1.cellAt tr.out;obtain⟨q3,q4,q5⟩:=k2.cellAt tq.out
     first
      |(simp at hE;simp[go_sem,Act.eval,iw,hE,k1,k2,q0,q1,q2,q3,q4,q5,l1,l2,P4];try rfl)
      |(clear hE;simp[go_sem,Act.eval,iw,k1,k2,q0,q1,q2,q3,q4,q5,l1,l2,P4];try rfl)
   clear hW hL b1 b2
   rintro W3 hW z4 hL
   simp only[ndR]
   intros
   simp only[ndS]
   refine wpList_nil ?_
   obtain⟨b1,b2,-⟩:=hL
   by_cases hrq:r=q
   ·have hall':=Hd (show∀k,k<i+1->A[k]? =B[k]? from fun k hk=>by
     rcases Nat.lt_or_ge k i with h|h
     ·exact hall.out k h
     ·obtain rfl:k=i:=by omega
      rw[tr.out,tq.out,hrq])
    rw[show (!decide (r.f=q.f)|| !decide (r.s=q.s)|| !decide (r.c=q.c))=false by subst hrq;simp]
    clear hrq
    go_wp2
    rw[show (i:Int)+1=((i+1:Nat):Int) by omega]
    refine⟨?_,by simp[Ak];omega⟩
    unfold smRel
    exact⟨hW0.trans (hW.mono hz),i+1,Ac rfl,by omega,hall'.out⟩
   ·have hne:=Hd (show decide (A=B)=false by
     rw[decide_eq_false_iff_not]
     rintro rfl
     rw[tr.out] at tq
     exact hrq (Option.some.inj tq.out))
    rw[show (!decide (r.f=q.f)|| !decide (r.s=q.s)|| !decide (r.c=q.c))=true by
     obtain⟨r1,r2,r3⟩:=r
     obtain⟨q1,q2,q3⟩:=q
     simp at hrq
     simp
     by_cases h1:r1=q1<;>by_cases h2:r2=q2<;>simp[h1,h2] at hrq⊢
     exact hrq]
    clear hrq
    go_wp2
    go_ret
    exact⟨by rw[hne.out];rfl,hW0.trans (hW.mono hz)⟩
  ·obtain rfl:i=A.length:=by omega
   have heq:=Hd (show decide (A=B)=true by
    rw[decide_eq_true_eq]
    apply List.ext_getElem?
    intro k
    rcases Nat.lt_or_ge k A.length with h|h
    ·exact hall.out k h
    ·rw[List.getElem?_eq_none h,List.getElem?_eq_none (by have:=hl.out;omega)])
   go_wp2
   go_ret
   exact⟨by rw[heq.out];rfl,hW0⟩
theorem Vg (p:Option Addr) (n cap:Nat) (p':Option Addr) (m cap':Nat) (w:World) (hl:¬n=m):
  Cb 177 #[.slice p n cap,.slice p' m cap'] w (.bool false):=by
 go_enter Tryz.func177,Tryz.ntmps177
 go_wp2
 go_ret
 exact⟨rfl,Below.refl _ _⟩
theorem Su (p:Option Addr) (cap:Nat) (p':Option Addr) (cap':Nat) (A B:List Ah) (w:World) (hlen:A.length<=1000000) (hA0:Ai w p A) (hB0:Ai w p' B):
  Cb 177 #[.slice p A.length cap,.slice p' B.length cap'] w (.bool (decide (A=B))):=by
 by_cases h:A.length=B.length
 ·rw[<-h];exact refsame_w p cap p' cap' A B w h hlen hA0 hB0
 ·rw[show decide (A=B)=false by rw[decide_eq_false_iff_not];rintro rfl;exact h rfl]
  exact Vg p _ cap p' _ cap' w h
theorem Vh (p:Option Addr) (cap:Nat) (l:List Ah) (w:World) (hlen:l.length<=1000) (h:Ai w p l) (hb:Fj (Ek l)=false):
  Cb 194 #[.slice p l.length cap] w (.bool false):=by
 have ct:=Hd (fun W (hW:Below w.heap.size w W)=>Ms p cap l W (h.below hW) hlen)
 have hTl:=Rn l
 obtain⟨T,hT⟩:∃T,T=Ek l:=⟨_,rfl⟩
 rw[<-hT] at ct hb hTl
 clear hT
 replace hTl:=Hd hTl
 replace hb:=Hd hb
 go_enter Tryz.func194,Tryz.ntmps194
 go_wp2_with fail
 refine(ct.out _ Aa).mono ?_
 rintro e w1 ⟨v,rfl,hown,hB1⟩
 have hz1:=hB1.size
 obtain⟨pt,cp,rfl,-,-,-,-⟩:=hown.form
 have hI:=hown.ints
 clear hown ct
 have cr:=Pp pt cp T w1 (by exact Nat.le_trans hTl.out (by omega)) hI
 rw[hb.out] at cr
 replace cr:=Hd cr
 go_wp2_with fail
 refine cr.out.mono ?_
 rintro e w2 ⟨rfl,hB2⟩
 have hz2:=hB2.size
 clear cr
 go_wp2
 go_ret
 exact⟨rfl,hB1.trans (hB2.mono hz1)⟩
theorem Th (p:Option Addr) (cap:Nat) (l:List Ah) (w:World) (hlen:l.length<=1000) (h:Ai w p l) (hb:Fj (Ek l)=true) (T:List Int) (hT:T=Ek l):
  Cb 194 #[.slice p l.length cap] w (.bool (decide (ofL T=l))):=by
 have ct:=Hd (fun W (hW:Below w.heap.size w W)=>hT▸Ms p cap l W (h.below hW) hlen)
 obtain⟨hl1,hl2,hris⟩:=(Ho T).1 (hT▸hb)
 rw[<-hT] at hb
 clear hT
 replace hris:=Hd hris
 replace hb:=Hd hb
 go_enter Tryz.func194,Tryz.ntmps194
 go_wp2_with fail
 refine(ct.out _ Aa).mono ?_
 rintro e w1 ⟨v,rfl,hown,hB1⟩
 have hz1:=hB1.size
 obtain⟨pt,cp,rfl,-,-,-,-⟩:=hown.form
 have hI:=hown.ints
 clear hown ct
 have cr:=Pp pt cp T w1 (by omega) hI
 rw[hb.out] at cr
 replace cr:=Hd cr
 go_wp2_with fail
 refine cr.out.mono ?_
 rintro e w2 ⟨rfl,hB2⟩
 have hz2:=hB2.size
 clear cr
 obtain⟨b,o,rfl⟩:∃b o,pt=some ⟨b,o,none⟩:=by
  obtain⟨b,o,e,_⟩:=hI.at' 0 _ (List.getElem?_eq_getElem (show 0<T.length by omega))
  exact⟨b,o,e⟩
 have co:=Hd (refof_w b o cp T w2 hl2 hris.out ⟨hI.below hB2⟩)
 go_wp2_with fail
 refine co.out.mono ?_
 rintro e w3 ⟨v,rfl,hown,hB3⟩
 have hz3:=hB3.size
 obtain⟨po,cq,rfl,-,-,-,-⟩:=hown.form
 have hR:=hown.runs
 clear hown co
 have hW:=hB1.trans ((hB2.trans (hB3.mono hz2)).mono hz1)
 have hOl:=length_of T
 have cs:=Hd (Su po cq p cap (ofL T) l w3 (by omega) hR (h.below hW))
 clear hOl
 go_wp2_with fail
 refine cs.out.mono ?_
 rintro e w4 ⟨rfl,hB4⟩
 have hz4:=hW.size
 clear cs
 go_wp2
 go_ret
 exact⟨rfl,hW.trans (hB4.mono hz4)⟩
theorem Za (p:Option Addr) (cap:Nat) (l:List Ah) (w:World) (hlen:l.length<=1000) (h:Ai w p l):
  Cb 194 #[.slice p l.length cap] w (.bool (Fe l)):=by
 rw[<-rightR_is]
 unfold X8
 cases hb:Fj (Ek l) with
 |false=>rw[Bool.false_and];exact Vh p cap l w hlen h hb
 |true=>rw[Bool.true_and];exact Th p cap l w hlen h hb _ rfl
end Go.Proofs.YtidfcoooccblaaaGreat
namespace Go.Proofs.YtidfcoooccblaaaGreat
open Go.RowKit
def Sa (w1:World) (g bt ot ct:Nat) (T V:List Int) (a':Act) (W:World):Prop:=
 Below w1.heap.size w1 W/\∃(i:Nat) (v:Value),(∃u:Nat->Value,a'= {tmps:= #[u 0,.pointer (some ⟨g,0,none⟩),.slice none 0 0,.bool false,.slice (some ⟨bt,ot,none⟩) T.length ct,v,.int .i64 (i:Int),u 7,u 8,u 9,u 10,u 11,u 12,u 13,u 14,u 15,u 16,u 17,u 18,u 19,u 20,u 21,u 22,u 23,u 24,u 25,u 26,u 27,u 28,u 29,u 30,u 31,u 32,u 33,u 34,u 35,u 36,u 37,u 38,u 39,u 40,u 41,u 42,u 43,u 44,u 45,u 46,u 47,u 48,u 49,u 50,u 51,u 52,u 53,u 54,u 55,u 56,u 57,u 58,u 59],defers:= []})/\
  Bp W w1.heap.size 91 2 v i (B8 ((T.zip V).take i))/\i<=T.length/\∀(k:Nat) (y:Int),k<i->V[k]? =some y->A6 y=true
def Uu (w:World) (T V:List Int) (e:Ending) (w':World):Prop:=
 Below w.heap.size w w'/\((V.all A6=true/\∃v,e= .returned (.tuple #[v,.bool true])/\Bp w' w.heap.size 91 2 v T.length (B8 (T.zip V)))∨(V.all A6=false/\e= .returned (.tuple #[.slice none 0 0,.bool false])))
theorem Mg {w:World} {B:Nat} {e:TypeId} {s n g:Nat} {v:Value} {xs:List Value} (h:w.ownsRow B e s v n xs) (hg:∀k,v.ownBlock=some k->k≠g) (i:Nat) (u:Value):(w.setCell ⟨g,i,none⟩ u).ownsRow B e s v n xs:=by
 obtain⟨h1,h2⟩:=h
 refine⟨h1,?_⟩
 rcases h2 with h2|⟨k,cap,cur,hv,hk,hh,rest⟩
 ·exact .inl h2
 ·refine .inr ⟨k,cap,cur,hv,hk,?_,rest⟩
  have hne:k≠g:=hg k (by rw[hv];rfl)
  exact(heap_setCell_other w ⟨g,i,none⟩ k u hne).trans hh
theorem Uw {T V:List Int} {i:Nat} {x y:Int} (hx:T[i]? =some x) (hy:V[i]? =some y):(T.zip V).take (i+1)=(T.zip V).take i++ [(x,y)]:=by
 have h:(T.zip V)[i]? =some (x,y):=by rw[List.getElem?_zip_eq_some];exact⟨hx,hy⟩
 rw[List.take_add_one,h];rfl
theorem not_all {V:List Int} {i:Nat} {y:Int} (hy:V[i]? =some y) (hb:A6 y=false):V.all A6=false:=by
 cases h:V.all A6 with
 |false=>rfl
 |true=>rw[List.all_eq_true.1 h y (List.mem_of_getElem? hy)] at hb;cases hb
theorem Zz {V:List Int} {n:Nat} (hn:V.length<=n) (h:∀(k:Nat) (y:Int),k<n->V[k]? =some y->A6 y=true):V.all A6=true:=by
 rw[List.all_eq_true]
 intro y hy
 obtain⟨k,hk⟩:=List.getElem?_of_mem hy
 exact h k y (by have:=(List.getElem?_eq_some_iff.1 hk).1;omega) hk
theorem pts_raw (A R n d E:Int) (p:Option Addr) (len cap b o vc:Nat) (T V:List Int) (w:World) (hV0:C8 w b o V) (hTV:V.length=T.length) (h0:1<=T.length) (h256:T.length<=256)
  (c1:∀W,Below w.heap.size w W->Calls Tryz.prog 85 #[.slice p len cap] W fun e w'=>∃v,e= .returned v/\Bp w' W.heap.size 2 1 v T.length (T.map (Value.int .i64))/\Below W.heap.size W w'):
  Calls Tryz.prog 62 #[.agg #[.int .i64 4,.slice p len cap,A,R,n,d,.slice (some ⟨b,o,none⟩) V.length vc,E]] w (Uu w T V):=by
 obtain⟨i0,hi,hz0,hz1,hz2⟩:=info_parts Tryz.infoPoint
 replace hTV:=Hd hTV
 have H_c1:=Hd c1
 clear c1
 go_enter Tryz.func62,Tryz.ntmps62
 go_wp2_with fail
 refine(H_c1.out _ Aa).mono ?_
 rintro e w1 ⟨v0,rfl,hT0,hb1⟩
 have z2:=hb1.size
 try simp at z2
 refine Ae w w1 (Bc w.heap.size #[.int .i64 4,.slice p len cap,A,R,n,d,.slice (some ⟨b,o,none⟩) V.length vc,E] 98<|Bz) ?_
 rintro hW z3 ⟨⟨b1,yb1,k1,f1⟩,-⟩
 obtain⟨pt,ct,rfl,-,-,-,-⟩:=hT0.form
 have hI:=hT0.ints
 clear hT0
 obtain⟨bt,ot,rfl⟩:∃b o,pt=some ⟨b,o,none⟩:=by
  obtain⟨b,o,e,_⟩:=hI.at' 0 _ (List.getElem?_eq_getElem (show 0<T.length by omega))
  exact⟨b,o,e⟩
 have hT1:C8 w1 bt ot T:=⟨hI⟩
 have hWW:=hW
 have hV1:=hV0.below hW
 clear hI
 go_wp2
 refine wp_loop (Sa w1 w.heap.size bt ot ct T V) (fun a' _=>T.length-(Ak (a'.tmps.getD 6 undef)).toNat) ?_ ?_
 ·unfold Sa
  exact⟨Below.refl _ _,0,_,Ac rfl,Bp.nil _ _ _ _,by omega,fun k y hk=>by omega⟩
 ·rintro a' W ⟨hW0,i,v,⟨u,rfl⟩,hown,hi',hall⟩
  have hz:=hW0.size
  have hT:=hT1.below hW0
  have hV:=hV1.below hW0
  have b1:=b1.below hW0
  have zb:=b1.lt
  replace hall:=Hd hall
  rcases Nat.lt_or_ge i T.length with hlt|hge
  ·obtain⟨x,tx⟩:∃x,T[i]? =some x:=⟨T[i]'(by omega),List.getElem?_eq_getElem (by omega)⟩
   obtain⟨y,ty⟩:∃y,V[i]? =some y:=⟨V[i]'(by have:=hTV.out;omega),List.getElem?_eq_getElem (by have:=hTV.out;omega)⟩
   replace tx:=Hd tx
   replace ty:=Hd ty
   have l2:i<V.length:=by have:=hTV.out;omega
   cases hbk:A6 y with
   |false=>
    replace hbk:=Hd hbk
    have k1:=b1.cell
    have f1:=b1.frozen
    have q1:=hT.cellAt tx.out
    have q2:=hV.cellAt ty.out
    have zv:=A8 q2
    have zt:=A8 q1
    try simp at zv
    try simp at zt
    have cb:=Oa y
    rw[hbk.out] at cb
    replace cb:=Hd cb
    go_wp2_with fail
    refine(cb.out _).mono ?_
    rintro e w21 ⟨rfl,hb21⟩
    have z22:=hb21.size
    try simp at z22
    clear k1 f1
    refine Ae W w21 (Bc w.heap.size #[.int .i64 4,.slice p len cap,A,R,n,d,.slice (some ⟨b,o,none⟩) V.length vc,E] 98<|Bc W.heap.size #[x,y] 91<|Bz) ?_
    clear b1
    rintro hW z23 ⟨⟨b1,yb1,k1,f1⟩,⟨b2,yb2,k2,f2⟩,-⟩
    clear hb21
    go_wp2
    go_ret2
    exact⟨hWW.trans (((hW0.trans (hW.mono hz))).mono hWW.size),.inr ⟨not_all ty.out hbk.out,rfl⟩⟩
   |true=>
    replace hbk:=Hd hbk
    have k1:=b1.cell
    have f1:=b1.frozen
    have q1:=hT.cellAt tx.out
    have q2:=hV.cellAt ty.out
    have zv:=A8 q2
    have zt:=A8 q1
    try simp at zv
    try simp at zt
    have cb:=Oa y
    rw[hbk.out] at cb
    replace cb:=Hd cb
    go_wp2_with fail
    refine(cb.out _).mono ?_
    rintro e w21 ⟨rfl,hb21⟩
    have z22:=hb21.size
    try simp at z22
    clear k1 f1
    refine Ae W w21 (Bc w.heap.size #[.int .i64 4,.slice p len cap,A,R,n,d,.slice (some ⟨b,o,none⟩) V.length vc,E] 98<|Bc W.heap.size #[x,y] 91<|Bz) ?_
    clear b1
    rintro hW z23 ⟨⟨b1,yb1,k1,f1⟩,⟨b2,yb2,k2,f2⟩,-⟩
    clear hb21
    have hown':=(hown.below hW).own
    have hW9:=hW0.trans (hW.mono hz)
    have ya9:=hW9.size
    clear cb hown hW
    go_wp2_with (at_builtin;refine wpList_append_own _ rfl (.tmp 55) (.tmp 57) 23 rfl w1.heap.size 91 i0 (.agg #[.int .i64 0,.int .i64 0]) 2 16 (by kernel_rfl) hi hz0 hz1 hz2 rfl (by decide) _ _ _ rfl (hown'.alloc _) ⟨w21.heap.size,0,none⟩ 1 1 [x,y] rfl rfl (G6 _ _ _ _) (by simp[Value.oneCell']) (by simp[maxLen];omega) (by omega) (by simp;omega) ?_)
    intro v' w9 hown2 hgr _
    have hB:=Hd (A5 hW9 ya9 hown' hgr)
    replace hown2:=Hd hown2
    have hall':=Hd (show∀k y,k<i+1->V[k]? =some y->A6 y=true from fun k z hk hz=>by
     rcases Nat.lt_or_ge k i with h|h
     ·exact hall.out k z h hz
     ·obtain rfl:k=i:=by omega
      rw[ty.out] at hz
      injection hz with hz
      rw[<-hz];exact hbk.out)
    clear hgr hown'
    go_wp2
    rw[show (i:Int)+1=((i+1:Nat):Int) by omega]
    refine⟨?_,by simp[Ak];omega⟩
    unfold Sa
    exact⟨hB.out,i+1,v',Ac rfl,⟨by rw[Uw tx.out ty.out,G4];simpa using hown2.out⟩,by omega,hall'.out⟩
  ·obtain rfl:i=T.length:=by omega
   have hya:=Hd (Zz (by have:=hTV.out;omega) hall.out)
   have htk:=Hd (show (T.zip V).take T.length=T.zip V from List.take_of_length_le (by rw[List.length_zip];exact Nat.min_le_left _ _))
   go_wp2
   go_ret2
   exact⟨hWW.trans (hW0.mono hWW.size),.inl ⟨hya.out,_,rfl,by have:=hown.mono hWW.size;rw[htk.out] at this;exact this⟩⟩
theorem pts_line (K A R n d E x0:Int) (p q:Option Addr) (len cap m vc:Nat) (T V:List Int) (w:World) (hK:(K==4)=false) (hTV:V.length=T.length) (h0:1<=T.length) (h256:T.length<=256) (t0:T[0]? =some x0) (hbd:∀x,x∈T->0<=x/\x<=281474976710656)
  (c1:∀W,Below w.heap.size w W->Calls Tryz.prog 85 #[.slice p len cap] W fun e w'=>∃v,e= .returned v/\Bp w' W.heap.size 2 1 v T.length (T.map (Value.int .i64))/\Below W.heap.size W w')
  (c2:∀W (i:Nat) x y,T[i]? =some x->V[i]? =some y->A6 y=true->Cb 123 #[.agg #[A,R,n,d],.int .i64 (x-x0)] W (.tuple #[y,.bool true]))
  (c3:∀W (i:Nat) x y,T[i]? =some x->V[i]? =some y->A6 y=false->Cb 123 #[.agg #[A,R,n,d],.int .i64 (x-x0)] W (.tuple #[.int .i64 0,.bool false])):
  Calls Tryz.prog 62 #[.agg #[K,.slice p len cap,A,R,n,d,.slice q m vc,E]] w (Uu w T V):=by
 obtain⟨i0,hi,hz0,hz1,hz2⟩:=info_parts Tryz.infoPoint
 replace hTV:=Hd hTV
 have bx0:=hbd x0 (List.mem_of_getElem? t0)
 replace hbd:=Hd hbd
 replace t0:=Hd t0
 replace c2:=Hd c2
 replace c3:=Hd c3
 have H_c1:=Hd c1
 clear c1
 go_enter Tryz.func62,Tryz.ntmps62
 go_wp2_with fail
 refine(H_c1.out _ Aa).mono ?_
 rintro e w1 ⟨v0,rfl,hT0,hb1⟩
 have z2:=hb1.size
 try simp at z2
 refine Ae w w1 (Bc w.heap.size #[K,.slice p len cap,A,R,n,d,.slice q m vc,E] 98<|Bz) ?_
 rintro hW z3 ⟨⟨b1,yb1,k1,f1⟩,-⟩
 obtain⟨pt,ct,rfl,-,-,-,-⟩:=hT0.form
 have hI:=hT0.ints
 clear hT0
 obtain⟨bt,ot,rfl⟩:∃b o,pt=some ⟨b,o,none⟩:=by
  obtain⟨b,o,e,_⟩:=hI.at' 0 _ (List.getElem?_eq_getElem (show 0<T.length by omega))
  exact⟨b,o,e⟩
 have hT1:C8 w1 bt ot T:=⟨hI⟩
 have hWW:=hW
 clear hI
 go_wp2
 refine wp_loop (Sa w1 w.heap.size bt ot ct T V) (fun a' _=>T.length-(Ak (a'.tmps.getD 6 undef)).toNat) ?_ ?_
 ·unfold Sa
  exact⟨Below.refl _ _,0,_,Ac rfl,Bp.nil _ _ _ _,by omega,fun k y hk=>by omega⟩
 ·rintro a' W ⟨hW0,i,v,⟨u,rfl⟩,hown,hi',hall⟩
  have hz:=hW0.size
  have hT:=hT1.below hW0
  have b1:=b1.below hW0
  have zb:=b1.lt
  replace hall:=Hd hall
  rcases Nat.lt_or_ge i T.length with hlt|hge
  ·obtain⟨x,tx⟩:∃x,T[i]? =some x:=⟨T[i]'(by omega),List.getElem?_eq_getElem (by omega)⟩
   obtain⟨y,ty⟩:∃y,V[i]? =some y:=⟨V[i]'(by have:=hTV.out;omega),List.getElem?_eq_getElem (by have:=hTV.out;omega)⟩
   have bx:=hbd.out x (List.mem_of_getElem? tx)
   replace tx:=Hd tx
   replace ty:=Hd ty
   have l1:=hlt
   have l2:0<T.length:=h0
   cases hbk:A6 y with
   |false=>
    have cb:=Hd (fun W=>c3.out W i x y tx.out ty.out hbk)
    replace hbk:=Hd hbk
    have k1:=b1.cell
    have f1:=b1.frozen
    have q1:=hT.cellAt tx.out
    have zt:=A8 q1
    try simp at zt
    have E1:=Hd (show wrap64 (x-x0)=x-x0 by rw[Al];omega)
    have hown7:=Hd hown
    clear hown
    go_upto_region 11 with(fail)
    clear k1 f1
    refine Ad W (Bc w.heap.size #[K,.slice p len cap,A,R,n,d,.slice q m vc,E] 98<|Bc W.heap.size #[x,.int .i64 0] 91<|Rc (fun W'=>C8 W' bt ot T)<|Bz) ?_ (hI:=by exact Aa) (hR:=(Bc.mk (by exact Ab)<|Bc.mk (by exact Ab)<|Rc.mk (by exact hT.below Aa)<|trivial))
    clear b1
    rintro W21 hW z22 hL
    obtain⟨⟨b1,yb1,k1,f1⟩,⟨b2,yb2,k2,f2⟩,b3,-⟩:=id hL
    clear k1 f1 k2 f2
    refine C2 16 60 hW hL ?_
    iterate 10 refine dE (fun W' hC=>aI (hC.2.2.2.1.cellAt tx.out) (aI (hC.2.2.2.1.cellAt t0.out) (aI l1 (aI l2 E1.out)))) ?_
    refine cE (fun W' hC=>aI (hC.2.2.2.1.cellAt tx.out) (aI (hC.2.2.2.1.cellAt t0.out) (aI l1 (aI l2 E1.out)))) (fun W' hC=>cb.out W') ?_
    iterate 5 refine dE (fun W' hC=>aI (hC.2.2.2.1.cellAt tx.out) (aI (hC.2.2.2.1.cellAt t0.out) (aI l1 (aI l2 E1.out)))) ?_
    clear hW hL b1 b2 b3
    rintro W23 hW z24 hL
    simp only[ndR]
    intros
    simp only[ndS]
    refine wpList_nil ?_
    obtain⟨⟨b1,yb1,k1,f1⟩,⟨b2,yb2,k2,f2⟩,b3,-⟩:=hL
    go_wp2
    go_ret2
    exact⟨hWW.trans (((hW0.trans (hW.mono hz))).mono hWW.size),.inr ⟨not_all ty.out hbk.out,rfl⟩⟩
   |true=>
    have cb:=Hd (fun W=>c2.out W i x y tx.out ty.out hbk)
    replace hbk:=Hd hbk
    have k1:=b1.cell
    have f1:=b1.frozen
    have q1:=hT.cellAt tx.out
    have zt:=A8 q1
    try simp at zt
    have E1:=Hd (show wrap64 (x-x0)=x-x0 by rw[Al];omega)
    have hown7:=Hd hown
    clear hown
    go_upto_region 11 with(fail)
    clear k1 f1
    refine Ad W (Bc w.heap.size #[K,.slice p len cap,A,R,n,d,.slice q m vc,E] 98<|Bc W.heap.size #[x,.int .i64 0] 91<|Rc (fun W'=>C8 W' bt ot T)<|Bz) ?_ (hI:=by exact Aa) (hR:=(Bc.mk (by exact Ab)<|Bc.mk (by exact Ab)<|Rc.mk (by exact hT.below Aa)<|trivial))
    clear b1
    rintro W21 hW z22 hL
    obtain⟨⟨b1,yb1,k1,f1⟩,⟨b2,yb2,k2,f2⟩,b3,-⟩:=id hL
    clear k1 f1 k2 f2
    refine C2 16 60 hW hL ?_
    iterate 10 refine dE (fun W' hC=>aI (hC.2.2.2.1.cellAt tx.out) (aI (hC.2.2.2.1.cellAt t0.out) (aI l1 (aI l2 E1.out)))) ?_
    refine cE (fun W' hC=>aI (hC.2.2.2.1.cellAt tx.out) (aI (hC.2.2.2.1.cellAt t0.out) (aI l1 (aI l2 E1.out)))) (fun W' hC=>cb.out W') ?_
    iterate 5 refine dE (fun W' hC=>aI (hC.2.2.2.1.cellAt tx.out) (aI (hC.2.2.2.1.cellAt t0.out) (aI l1 (aI l2 E1.out)))) ?_
    clear hW hL b1 b2 b3
    rintro W23 hW z24 hL
    simp only[ndR]
    intros
    simp only[ndS]
    refine wpList_nil ?_
    obtain⟨⟨b1,yb1,k1,f1⟩,⟨b2,yb2,k2,f2⟩,b3,-⟩:=hL
    have z97:=b1.lt
    have z98:=b2.lt
    have hown':=(hown7.out.below hW).own
    have hne9:=Hd (show∀k,v.ownBlock=some k->k≠W.heap.size from fun k hk=>by have:=(hown7.out.own.lt k hk).2;omega)
    clear cb b3
    go_upto_region 15 with(fail)
    clear k1 f1 k2 f2
    refine Ad W (Bc W.heap.size #[x,y] 91<|Rc (fun W'=>Bp W' w1.heap.size 91 2 v i (B8 ((T.zip V).take i)))<|Bz) ?_ (hI:=by exact Aa) (hR:=(Bc.mk (by exact Ab)<|Rc.mk (by exact⟨Mg hown' hne9.out 1 (y)⟩)<|trivial))
    clear b1 b2 hW
    rintro W25 hW z26 ⟨⟨b1,yb1,k1,f1⟩,b2,-⟩
    have hown9:=b2.own
    have hW9:=hW0.trans (hW.mono hz)
    have ya9:=hW9.size
    clear hW hown' b2
    go_wp2_with (at_builtin;refine wpList_append_own _ rfl (.tmp 55) (.tmp 57) 23 rfl w1.heap.size 91 i0 (.agg #[.int .i64 0,.int .i64 0]) 2 16 (by kernel_rfl) hi hz0 hz1 hz2 rfl (by decide) _ _ _ rfl (hown9.alloc _) ⟨W25.heap.size,0,none⟩ 1 1 [x,y] rfl rfl (G6 _ _ _ _) (by simp[Value.oneCell']) (by simp[maxLen];omega) (by omega) (by simp;omega) ?_)
    intro v' w9 hown2 hgr _
    have hB:=Hd (A5 hW9 ya9 hown9 hgr)
    replace hown2:=Hd hown2
    have hall':=Hd (show∀k y,k<i+1->V[k]? =some y->A6 y=true from fun k z hk hz=>by
     rcases Nat.lt_or_ge k i with h|h
     ·exact hall.out k z h hz
     ·obtain rfl:k=i:=by omega
      rw[ty.out] at hz
      injection hz with hz
      rw[<-hz];exact hbk.out)
    clear hgr hown9
    go_wp2
    rw[show (i:Int)+1=((i+1:Nat):Int) by omega]
    refine⟨?_,by simp[Ak];omega⟩
    unfold Sa
    exact⟨hB.out,i+1,v',Ac rfl,⟨by rw[Uw tx.out ty.out,G4];simpa using hown2.out⟩,by omega,hall'.out⟩
  ·obtain rfl:i=T.length:=by omega
   have hya:=Hd (Zz (by have:=hTV.out;omega) hall.out)
   have htk:=Hd (show (T.zip V).take T.length=T.zip V from List.take_of_length_le (by rw[List.length_zip];exact Nat.min_le_left _ _))
   go_wp2
   go_ret2
   exact⟨hWW.trans (hW0.mono hWW.size),.inl ⟨hya.out,_,rfl,by have:=hown.mono hWW.size;rw[htk.out] at this;exact this⟩⟩
end Go.Proofs.YtidfcoooccblaaaGreat
