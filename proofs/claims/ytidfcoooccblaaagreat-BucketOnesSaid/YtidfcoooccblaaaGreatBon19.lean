/- Parts of the proof that follows. No condition. -/
import Derived.Test.YtidfcoooccblaaaGreatBon18
set_option maxRecDepth 100000
set_option maxHeartbeats 8000000
set_option linter.unusedSimpArgs false
set_option linter.unusedVariables false
namespace Go.Proofs.YtidfcoooccblaaaGreat
open Go.RowKit
theorem Tryz.infoSeg :(Tryz.prog.info? 98).map (fun i=>(i.zero,i.size,i.bytes))=some (some (.agg #[.int .i64 0,.slice none 0 0,.int .i64 0,.int .i64 0,.int .i64 0,.int .i64 0,.slice none 0 0,.int .i64 0]),8,96):=by kernel_rfl
theorem F8 (p:Option Addr):(Option.map (fun x:Addr=>x) p)=p:=by cases p<;>rfl
theorem T2 (l:List Dm):(Et l).length=l.length*8:=by
 unfold Et
 induction l with
 |nil=>rfl
 |cons x l ih=>rw[List.flatMap_cons,List.length_append,ih,On,List.length_cons];omega
theorem T0 {l:List Dm} (u:Value) (h:u∈Et l):u.oneCell'=true:=by
 unfold Et at h
 obtain⟨r,_,hu⟩:=List.mem_flatMap.1 h
 unfold Gl Dh at hu
 simp at hu
 rcases hu with rfl|rfl|rfl|rfl|rfl|rfl|rfl|rfl<;>rfl
def ownG (s:A4):A4:=⟨s.K,s.runs.take 300,s.A,s.R,s.n,s.d,s.raw.take 300,s.E⟩
theorem Ai.rex1 {w w':World} {p:Option Addr} {l:List Ah} {g:Nat} {L:List Nat} (h:Ai w p l) (hL:∀x,x∈L->x<=g) (hg:∀a,p=some a->g<a.block) (hr:Rex L w w'):Ai w' p l:=⟨fun i r hi=>by
 obtain⟨b,o,e,h1,h2,h3⟩:=h.at' i r hi
 have hb:=hg _ e
 have key:∀z v,w.cell? ⟨b,z,none⟩=some v->w'.cell? ⟨b,z,none⟩=some v:=fun z v hv=>(World.cell?_of_block (hr.block b (A8 hv) (fun hx=>by have:=hL _ hx;simp at hb;omega))).trans hv
 exact⟨b,o,e,key _ _ h1,key _ _ h2,key _ _ h3⟩⟩
theorem Au.rex1 {w w':World} {p:Option Addr} {l:List Int} {g:Nat} {L:List Nat} (h:Au w p l) (hL:∀x,x∈L->x<=g) (hg:∀a,p=some a->g<a.block) (hr:Rex L w w'):Au w' p l:=⟨fun i r hi=>by
 obtain⟨b,o,e,h1⟩:=h.at' i r hi
 have hb:=hg _ e
 exact⟨b,o,e,(World.cell?_of_block (hr.block b (A8 h1) (fun hx=>by have:=hL _ hx;simp at hb;omega))).trans h1⟩⟩
structure Rh (W:World) (g:Nat) (r0 r:Dm):Prop where
 says:r.s=ownG r0.s
 runs:Ai W r.p r.s.runs
 raw:Au W r.q r.s.raw
 capV:r.s.raw.length<=r.vc
 farR:∀a,r.p=some a->g<a.block
 farV:∀a,r.q=some a->g<a.block
theorem Rh.rex {W W':World} {g:Nat} {r0 r:Dm} {L:List Nat} (h:Rh W g r0 r) (hL:∀x,x∈L->x<=g) (hr:Rex L W W'):Rh W' g r0 r:=⟨h.says,h.runs.rex1 hL h.farR hr,h.raw.rex1 hL h.farV hr,h.capV,h.farR,h.farV⟩
structure Of (W:World) (g:Nat) (rows R:List Dm) (i:Nat):Prop where
 len:R.length=rows.length
 rest:∀k,i<=k->R[k]? =rows[k]?
 own:∀k,k<i->∀r,R[k]? =some r->∃r0,rows[k]? =some r0/\Rh W g r0 r
theorem Of.start (W:World) (g:Nat) (rows:List Dm):Of W g rows rows 0:=⟨rfl,fun _ _=>rfl,fun k h=>by omega⟩
theorem Of.rex {W W':World} {g i:Nat} {rows R:List Dm} {L:List Nat} (h:Of W g rows R i) (hL:∀x,x∈L->x<=g) (hr:Rex L W W'):Of W' g rows R i:=⟨h.len,h.rest,fun k hk r hR=>by
 obtain⟨r0,h1,h2⟩:=h.own k hk r hR
 exact⟨r0,h1,h2.rex hL hr⟩⟩
theorem Of.step {W:World} {g i:Nat} {rows R:List Dm} {r0 r1:Dm} (h:Of W g rows R i) (h0:rows[i]? =some r0) (h1:Rh W g r0 r1):Of W g rows (R.set i r1) (i+1):=⟨by rw[List.length_set];exact h.len,fun k hk=>by rw[List.getElem?_set_ne (by omega)];exact h.rest k (by omega),fun k hk r hR=>by
 rw[List.getElem?_set] at hR
 split at hR
 ·rename_i e
  subst e
  split at hR
  ·injection hR with hR
   subst hR
   exact⟨r0,h0,h1⟩
  ·cases hR
 ·exact h.own k (by omega) r hR⟩
theorem X1 (r:Dm) (l:List Ah) (p:Option Addr) (c:Nat):Gl ⟨⟨r.s.K,l,r.s.A,r.s.R,r.s.n,r.s.d,r.s.raw,r.s.E⟩,p,r.q,c,r.vc⟩=(Gl r).setIfInBounds 1 (.slice p l.length c):=rfl
theorem segRA_raw (r:Dm) (l:List Int) (q:Option Addr) (c:Nat):Gl ⟨⟨r.s.K,r.s.runs,r.s.A,r.s.R,r.s.n,r.s.d,l,r.s.E⟩,r.p,q,r.cap,c⟩=(Gl r).setIfInBounds 6 (.slice q l.length c):=rfl
theorem Tryz.infoPt :(Tryz.prog.info? 91).map (fun i=>(i.zero,i.size,i.bytes))=some (some (.agg #[.int .i64 0,.int .i64 0]),2,16):=by kernel_rfl
theorem N0 :∀l:List (Int×Int),(B8 l).length=l.length*2
 | []=>rfl
 |x::l=>by
  rw[show B8 (x::l)= [.int .i64 x.1,.int .i64 x.2]++B8 l from rfl,List.length_append,N0 l]
  simp only[List.length_cons,List.length_nil]
  omega
theorem Nz :∀(l:List (Int×Int)) (u:Value),u∈B8 l->u.oneCell'=true
 | [],u,h=>by simp[B8] at h
 |x::l,u,h=>by
  rw[show B8 (x::l)= [.int .i64 x.1,.int .i64 x.2]++B8 l from rfl] at h
  simp only[List.mem_append,List.mem_cons,List.not_mem_nil,or_false] at h
  rcases h with(rfl|rfl)|h
  ·rfl
  ·rfl
  ·exact Nz l u h
theorem N5 :∀l:List (Int×Int),B8 l=l.flatMap fun x=> [.int .i64 x.1,.int .i64 x.2]
 | []=>rfl
 |x::l=>by rw[List.flatMap_cons,<-N5 l];rfl
theorem pts_flat9 {w:World} {a:Addr} {l:List (Int×Int)} (h:Bv w (some a) l) (j:Nat) (u:Value) (hu:(B8 l)[j]? =some u):w.cell? (a.add j)=some u:=by
 rw[N5] at hu
 obtain⟨i,x,k,h1,h2,rfl,h3⟩:=Tz _ 2 (by omega) (fun _=>rfl) l j u hu
 obtain⟨b,o,e,c0,c1⟩:=h.at' i x h1
 injection e with e
 subst e
 rw[show (⟨b,o,none⟩:Addr).add (i*2+k)=⟨b,o+i*2+k,none⟩ by unfold Addr.add;split<;>simp_all<;>omega]
 match k,h2,h3 with
 |0,_,h3=>simp at h3;subst h3;exact c0
 |1,_,h3=>simp at h3;subst h3;exact c1
theorem Bv.take9 {w:World} {p:Option Addr} {l:List (Int×Int)} (h:Bv w p l) (k:Nat):Bv w p (l.take k):=⟨fun i r hr=>h.at' i r (by
 rw[List.getElem?_take] at hr
 split at hr
 ·exact hr
 ·cases hr)⟩
def ownRel (w:World) (nm:ByteArray) (ep fl la sc:Int) (po:Option Addr) (co np:Nat) (rows:List Dm) (M gS capS:Nat) (a':Act) (W:World):Prop:=
 Below w.heap.size w W/\Blk W w.heap.size #[.string nm,.int .i64 ep,.int .i64 fl,.int .i64 la,.int .i64 sc,.slice (some ⟨gS,0,none⟩) M capS,.slice po np co] 25/\Blk W (w.heap.size+1) #[.string .empty,.int .i64 0,.int .i64 0,.int .i64 0,.int .i64 0,.slice none 0 0,.slice none 0 0] 25/\∃(i:Nat) (cur:Array Value) (R:List Dm),Blk W gS cur 98/\Hk cur R/\Of W gS rows R i/\(∃u:Nat->Value,a'= {tmps:= #[u 0,.pointer (some ⟨w.heap.size,0,none⟩),.pointer (some ⟨w.heap.size+1,0,none⟩),u 3,u 4,u 5,u 6,u 7,u 8,u 9,u 10,u 11,u 12,u 13,u 14,u 15,.slice (some ⟨gS,0,none⟩) M capS,.int .i64 (M:Int),.int .i64 (i:Int),u 19,u 20,u 21,u 22,u 23,u 24,u 25,u 26,u 27,u 28,u 29,u 30,u 31,u 32,u 33,u 34,u 35,u 36,u 37,u 38,u 39,u 40,u 41,u 42,u 43,u 44,u 45,u 46,u 47,u 48,u 49,u 50,u 51,u 52,u 53,u 54,u 55,u 56,u 57,u 58,u 59,u 60,u 61,u 62],defers:= []})/\i<=M
def RowOwn (w:World) (e:TypeId) (n k:Nat) (news:List Value) (v:Value) (w':World):Prop:=∃g cap' cur,v= .slice (some ⟨g,0,none⟩) n cap'/\w.heap.size<=g/\Blk w' g cur e/\n<=cap'/\cur.toList.take k=news
theorem Rp (a:Addr) (cap:Nat) (rows:List Dm) (w:World) (hl:rows.length<=100) (h:Ec w (some a) rows):Calls Tryz.prog 73 #[.slice (some a) rows.length cap] w fun e w'=>∃v,e= .returned v/\Below w.heap.size w w'/\RowOwn w 98 rows.length (rows.length*8) (Et rows) v w':=by
 have hnil:∀W,(binOp .eql 22 (.slice (some a) rows.length cap) (.slice none 0 0)).run Tryz.prog W= .ok (.bool false) W:=fun W=>Lib.run_eql_slice_nil W 22 98 _ _ _ _ _ (by kernel_rfl)
 go_enter Tryz.func73,Tryz.ntmps73
 go_upto_region 3 with(fail)
 clear hnil
 have hmk:∀W,(Instr.buildSlice 22 0 #[]).run Tryz.prog W= .ok (.slice (some ⟨W.heap.size,0,none⟩) 0 0) (W.alloc (.cells #[] 98)):=fun W=>by kernel_rfl
 obtain⟨i,hi,hz0,hz1,hz2⟩:=info_parts Tryz.infoSeg
 have hW:Below w.heap.size w (w.alloc (.cells #[] 98)):=Aa
 have hown0:=World.ownsRow_made (e:=98) (size:=8) (base:=w.heap.size) w #[] 0 (Nat.le_refl _) (by simp[maxLen]) (by simp)
 go_wp2_with (at_builtin;refine wpList_append_own _ rfl (.tmp 5) (.tmp 6) 22 rfl w.heap.size 98 i _ 8 96 (by kernel_rfl) hi hz0 hz1 hz2 rfl (by omega) _ 0 [] rfl hown0 a rows.length cap (Et rows) rfl (by rw[T2]) (fun j u hu=>(h.below hW).flat a rfl j u hu) (fun v hv=>T0 v hv) (by simp[maxLen];omega) (by omega) (by simp) ?_)
 intro v' w' hown hgr hvn
 have hB:=Hd (Hy hgr)
 replace hown:=Hd hown
 replace hvn:=Hd hvn
 clear hgr
 go_wp2
 go_ret
 obtain⟨_,h2|⟨g,cap',cur,rfl,hg,hb,hn,_,hc,ht⟩⟩:=hown.out
 ·exact(hvn.out h2.1).elim
 ·exact⟨_,rfl,hB.out,g,cap',cur,by simp,hg,hb,by omega,by simpa using ht⟩
theorem N7 (a:Addr) (cap:Nat) (l:List (Int×Int)) (w:World) (hl:l.length<=100) (h:Bv w (some a) l):Calls Tryz.prog 74 #[.slice (some a) l.length cap] w fun e w'=>∃v,e= .returned v/\Below w.heap.size w w'/\RowOwn w 91 l.length (l.length*2) (B8 l) v w':=by
 have hnil:∀W,(binOp .eql 23 (.slice (some a) l.length cap) (.slice none 0 0)).run Tryz.prog W= .ok (.bool false) W:=fun W=>Lib.run_eql_slice_nil W 23 91 _ _ _ _ _ (by kernel_rfl)
 go_enter Tryz.func74,Tryz.ntmps74
 go_upto_region 3 with(fail)
 clear hnil
 have hmk:∀W,(Instr.buildSlice 23 0 #[]).run Tryz.prog W= .ok (.slice (some ⟨W.heap.size,0,none⟩) 0 0) (W.alloc (.cells #[] 91)):=fun W=>by kernel_rfl
 obtain⟨i,hi,hz0,hz1,hz2⟩:=info_parts Tryz.infoPt
 have hW:Below w.heap.size w (w.alloc (.cells #[] 91)):=Aa
 have hown0:=World.ownsRow_made (e:=91) (size:=2) (base:=w.heap.size) w #[] 0 (Nat.le_refl _) (by simp[maxLen]) (by simp)
 go_wp2_with (at_builtin;refine wpList_append_own _ rfl (.tmp 5) (.tmp 6) 23 rfl w.heap.size 91 i _ 2 16 (by kernel_rfl) hi hz0 hz1 hz2 rfl (by omega) _ 0 [] rfl hown0 a l.length cap (B8 l) rfl (by rw[N0]) (fun j u hu=>pts_flat9 (h.below hW) j u hu) (fun v hv=>Nz l v hv) (by simp[maxLen];omega) (by omega) (by simp) ?_)
 intro v' w' hown hgr hvn
 have hB:=Hd (Hy hgr)
 replace hown:=Hd hown
 replace hvn:=Hd hvn
 clear hgr
 go_wp2
 go_ret
 obtain⟨_,h2|⟨g,cap',cur,rfl,hg,hb,hn,_,hc,ht⟩⟩:=hown.out
 ·exact(hvn.out h2.1).elim
 ·exact⟨_,rfl,hB.out,g,cap',cur,by simp,hg,hb,by omega,by simpa using ht⟩
theorem Ud (w:World):Cb 73 #[.slice none 0 0] w (.slice none 0 0):=by
 go_enter Tryz.func73,Tryz.ntmps73
 have hnil:∀W,(binOp .eql 22 (.slice none 0 0) (.slice none 0 0)).run Tryz.prog W= .ok (.bool true) W:=fun W=>by kernel_rfl
 go_wp2
 go_ret
 exact⟨rfl,Aa⟩
theorem Po (w:World):Cb 74 #[.slice none 0 0] w (.slice none 0 0):=by
 go_enter Tryz.func74,Tryz.ntmps74
 have hnil:∀W,(binOp .eql 23 (.slice none 0 0) (.slice none 0 0)).run Tryz.prog W= .ok (.bool true) W:=fun W=>by kernel_rfl
 go_wp2
 go_ret
 exact⟨rfl,Aa⟩
theorem Wv (p:Option Addr) (cap:Nat) (l:List Ah) (w:World) (hl:l.length<=300) (h:Ai w p l) (hn:p=none->l.length=0/\cap=0):
  Calls Tryz.prog 75 #[.slice p l.length cap] w (Zw w p l):=by
 cases p with
 |none=>
  obtain⟨h1,rfl⟩:=hn rfl
  have e:l= []:=List.length_eq_zero_iff.1 h1
  subst e
  exact Ue w
 |some a=>exact Rq a cap l w hl h
theorem Ww (p:Option Addr) (cap:Nat) (l:List Int) (w:World) (hl:l.length<=300) (h:Au w p l) (hn:p=none->l.length=0/\cap=0):
  Calls Tryz.prog 76 #[.slice p l.length cap] w (Zx w p l):=by
 cases p with
 |none=>
  obtain⟨h1,rfl⟩:=hn rfl
  have e:l= []:=List.length_eq_zero_iff.1 h1
  subst e
  exact Uf w
 |some a=>exact Rr a cap l w hl h
section
variable {P:Program} {ops:Array Oper} {C:World->Prop} {X:List (Nat×Nat)} {a0:Act} {n:Nat} {Q:Exit->Act->World->Prop}
theorem Jp {m i:Nat} {o:Oper} {Ψ:Nat->Bo} {listed:Array Bool} {a:Act} {w w':World} {u:Value} (hok:Ok ops n m) (hm:m=a0.tmps.size) (hC:∀i,i<n->∀u w w',C w->Rex (Fh X i) w w'->Ψ i u w'->C w')
  (hcl:∀i,i<n->Bj (Bl X i) (Ψ i)) (inv:Inv ops C a0 n Ψ listed a w) (hr:i∈Region.ready .any ops listed) (hi:i<n) (ho:ops[i]? =some o)
  (hR:Rex (Fh X i) w w') (hΨ:Ψ i u w') (hnew:Az o=true->u=undef∨Zv w w' u):Inv ops C a0 n Ψ (listed.setIfInBounds i true) (a.put o.dst u) w':=by
 obtain⟨hun,o',ho',hall⟩:=mem_ready.1 hr
 obtain rfl:o'=o:=by rw[ho] at ho';injection ho' with h;exact h.symm
 have hil:i<listed.size:=by rw[inv.lsize];exact(Array.getElem?_eq_some_iff.1 ho).1
 have hwi:Cf ops i=o'.dst:=by simp[Cf,ho]
 have hset:∀j,(listed.setIfInBounds i true).getD j false=true->j=i∨listed.getD j false=true:=by
  intro j hj
  by_cases hji:j=i
  ·exact .inl hji
  ·exact .inr (by rwa [getD_set_ne false (Ne.symm hji)] at hj)
 have hdsz:∀d,o'.dst=some d->d<a.tmps.size:=fun d hd=>by rw[inv.size,<-hm];exact hok.dst i d hi (by rw[hwi,hd])
 have hkeep:∀s,o'.dst≠some s->(a.put o'.dst u).tmps.getD s undef=a.tmps.getD s undef:=by
  intro s hs
  cases hd:o'.dst with
  |none=>rfl
  |some d=>exact Gq (fun e=>hs (by rw[hd,e]))
 have hput:∀d,o'.dst=some d->(a.put o'.dst u).tmps.getD d undef=u:=by
  intro d hd
  rw[hd]
  exact Hw (hdsz d hd)
 have hclosed:∀j,j<n->j≠i->∀v,Ψ j v w->Ψ j v w':=fun j hj hji v hv=>hcl j hj v w w' (hR.more (Ql (Ne.symm hji))) hv
 have hother:∀j,j<n->j≠i->∀d,Cf ops j=some d->o'.dst≠some d:=fun j hj hji d hd e=>hji (hok.uniq j i d hj hi hd (by rw[hwi,e]))
 refine⟨hC i hi u _ _ inv.c hR hΨ,?_,?_,by simp[inv.lsize],?_,?_,?_,?_,?_,?_⟩
 ·cases hd:o'.dst<;>simp[Act.put,inv.size]
 ·cases hd:o'.dst<;>simp[Act.put,inv.defers]
 ·intro j oj hj hl e he hb
  rcases hset j hl with rfl|hl
  ·have:oj=o':=by rw[ho] at hj;injection hj with h;exact h.symm
   subst this
   exact getD_set_true (hall e he hb)
  ·exact getD_set_true (inv.down j oj hj hl e he hb)
 ·intro j hj hl d hd
  by_cases hji:j=i
  ·subst hji
   rw[hput d (by rw[<-hwi,hd])]
   exact hΨ
  ·rw[hkeep d (hother j hj hji d hd)]
   exact hclosed j hj hji _ (inv.val j hj ((hset j hl).resolve_left hji) d hd)
 ·intro j hj hl hd
  by_cases hji:j=i
  ·subst hji;exact⟨u,hΨ⟩
  ·obtain⟨u',hu'⟩:=inv.eff j hj ((hset j hl).resolve_left hji) hd
   exact⟨u',hclosed j hj hji _ hu'⟩
 ·intro s hs
  have h1:o'.dst≠some s:=by
   have:=hs i hi (by simp[hil])
   rwa [hwi] at this
  rw[hkeep s h1]
  exact inv.old s fun j hj hl=>hs j hj (getD_set_true hl)
 ·intro j oj d hj hl hoj hal hd x hx
  by_cases hji:j=i
  ·subst hji
   have:oj=o':=by rw[ho] at hoj;injection hoj with h;exact h.symm
   subst this
   rw[hput d hd] at hx
   rcases hnew hal with h|⟨b,h,_,hb⟩
   ·rw[h] at hx;simp[undef] at hx
   ·rw[h] at hx;injection hx with hx;injection hx with hx;subst hx;exact hb
  ·have hne:=hother j hj hji d (by simp[Cf,hoj,hd])
   rw[hkeep d hne] at hx
   exact Nat.lt_of_lt_of_le (inv.new j oj d hj ((hset j hl).resolve_left hji) hoj hal hd x hx) hR.size
 ·intro j oj d k ok d' hj hk hjk hlj hlk hoj hok' haj hak hd hd' x hx hx'
  by_cases hji:j=i
  ·subst hji
   have:oj=o':=by rw[ho] at hoj;injection hoj with h;exact h.symm
   subst this
   rw[hput d hd] at hx
   have hne:=hother k hk (Ne.symm hjk) d' (by simp[Cf,hok',hd'])
   rw[hkeep d' hne] at hx'
   have h2:=inv.new k ok d' hk ((hset k hlk).resolve_left (Ne.symm hjk)) hok' hak hd' x hx'
   rcases hnew haj with h|⟨b,h,hb,_⟩
   ·rw[h] at hx;simp[undef] at hx
   ·rw[h] at hx;injection hx with hx;injection hx with hx;subst hx;simp at h2;omega
  ·by_cases hki:k=i
   ·subst hki
    have:ok=o':=by rw[ho] at hok';injection hok' with h;exact h.symm
    subst this
    rw[hput d' hd'] at hx'
    have hne:=hother j hj hji d (by simp[Cf,hoj,hd])
    rw[hkeep d hne] at hx
    have h2:=inv.new j oj d hj ((hset j hlj).resolve_left hji) hoj haj hd x hx
    rcases hnew hak with h|⟨b,h,hb,_⟩
    ·rw[h] at hx';simp[undef] at hx'
    ·rw[h] at hx';injection hx' with hx';injection hx' with hx';subst hx';simp at h2;omega
   ·have hne:=hother j hj hji d (by simp[Cf,hoj,hd])
    have hne':=hother k hk hki d' (by simp[Cf,hok',hd'])
    rw[hkeep d hne] at hx
    rw[hkeep d' hne'] at hx'
    exact inv.apart j oj d k ok d' hj hk hjk ((hset j hlj).resolve_left hji) ((hset k hlk).resolve_left hki) hoj hok' haj hak hd hd' x hx hx'
theorem inv_stepS {m i:Nat} {Ψ:Nat->Bo} {listed:Array Bool} {a:Act} {w:World} (hok:Ok ops n m) (hm:m=a0.tmps.size) (hC:∀i,i<n->∀u w w',C w->Rex (Fh X i) w w'->Ψ i u w'->C w')
  (hcl:∀i,i<n->Bj (Bl X i) (Ψ i)) (hop:∀i o,i<n->ops[i]? =some o->Ow P ops C (Fh X i) (Aj a0 (Dp ops Ψ i)) o (Ψ i))
  (inv:Inv ops C a0 n Ψ listed a w) (hr:i∈Region.ready .any ops listed) (hi:i<n):
  wpOp P ops Q i (Inv ops C a0 n Ψ (listed.setIfInBounds i true)) a w:=by
 obtain⟨_,o,ho,_⟩:=mem_ready.1 hr
 obtain⟨h1,h2⟩:=hop i o hi ho a w inv.c (Nx hok inv hr hi ho)
 unfold wpOp
 simp only[ho]
 by_cases hw:Region.wanted o (yielded ops a.tmps)=true
 ·simp only[hw,if_true]
  refine .inl ?_
  have h1:=h1 hw
  unfold Oper.wp
  generalize (execOp a.eval o).run P w=r at h1
  cases r with
  |ok x w'=>
   cases x<;>simp only[Ky] at h1<;>simp only[Oper.upon]
   case value u=>exact Jp hok hm hC hcl inv hr hi ho h1.1 h1.2.1 fun ha=> .inr (h1.2.2 ha)
   case skip=>exact Jp hok hm hC hcl inv hr hi ho h1.1 h1.2.1 fun ha=>by rw[h1.2.2] at ha;cases ha
   case enter f args=>
    obtain⟨rfl,hna,hc⟩:=h1
    refine hc.mono fun e w'' ⟨u,he,hR,hΦ⟩=> ?_
    subst he
    exact Jp hok hm hC hcl inv hr hi ho hR hΦ fun ha=>by rw[hna] at ha;cases ha
  |halt x w'=>simp only[Ky] at h1
 ·have hw':Region.wanted o (yielded ops a.tmps)=false:=by simpa using hw
  simp only[hw',Bool.false_eq_true,if_false]
  exact Jp hok hm hC hcl inv hr hi ho (Rex.refl _ _) (h2 hw') fun _=> .inl rfl
theorem Vs {m:Nat} {Ψ:Nat->Bo} (hok:Ok ops n m) (hm:m=a0.tmps.size) (hC:∀i,i<n->∀u w w',C w->Rex (Fh X i) w w'->Ψ i u w'->C w')
  (hcl:∀i,i<n->Bj (Bl X i) (Ψ i)) (hop:∀i o,i<n->ops[i]? =some o->Ow P ops C (Fh X i) (Aj a0 (Dp ops Ψ i)) o (Ψ i))
  (hQ:∀c a d v w,Q (.panic c) (Act.put a d v) w->Q (.panic c) a w)
  (hFin:∀a w,(∃listed,Inv ops C a0 n Ψ listed a w/\∀i,i<n->listed.getD i false=true)->wpList P ops Q (ops.toList.drop n) a w):
  ∀(f:Nat) (listed:Array Bool) (a:Act) (w:World),Inv ops C a0 n Ψ listed a w->listed.toList.count false=f->
   (∀i o,i<n->ops[i]? =some o->F0 o=false->listed.getD i false=true)->(∀t,n<=t->listed.getD t false=false)->wpAny P .any ops Q f listed a w:=by
 intro f
 induction f with
 |zero=>
  intro listed a w inv hcnt hnp htl
  have hall:∀i,i<ops.size->listed.getD i false=true:=by
   intro i hi
   have h0:¬false∈listed.toList:=by rw[<-List.count_eq_zero];exact hcnt
   have hi':i<listed.size:=by rw[inv.lsize];exact hi
   cases hb:listed[i] with
   |true=>simp[hi',hb]
   |false=>exact absurd (by rw[<-hb];exact Array.mem_toList_iff.2 (Array.getElem_mem hi')) h0
  have hn:n=ops.size:=by
   rcases Nat.lt_or_ge n ops.size with h|h
   ·have:=htl n (Nat.le_refl _);rw[hall n h] at this;cases this
   ·exact Nat.le_antisymm hok.le h
  have hready:Region.ready .any ops listed= []:=by
   apply List.eq_nil_iff_forall_not_mem.2
   intro k hk
   obtain⟨h1,o,ho,_⟩:=mem_ready.1 hk
   have hk':=(Array.getElem?_eq_some_iff.1 ho).1
   have h2:=hall k hk'
   simp[inv.lsize,hk'] at h1 h2
   rw[h1] at h2;cases h2
  have:=hFin a w ⟨listed,inv,fun i hi=>hall i (by omega)⟩
  rw[hn,List.drop_eq_nil_of_le (by simp)] at this
  exact⟨hready,this⟩
 |succ f ih=>
  intro listed a w inv hcnt hnp htl
  by_cases hbody:∀i,i<n->listed.getD i false=true
  ·--only the tail is left
   have hl:listed=(Array.replicate n true)++Array.replicate (ops.size-n) false:=by
    have hle:=hok.le
    apply Array.ext
    ·simp[inv.lsize];omega
    ·intro i h1 h2
     by_cases hi:i<n
     ·have:=hbody i hi
      simp[h1] at this
      simp[hi,this]
     ·have:=htl i (by omega)
      simp[h1] at this
      simp[Array.getElem_append,hi,this]
   have hc:listed.toList.count false=ops.size-n:=by
    rw[hl];simp[List.count_replicate]
   have hseq:=hok.seq
   unfold Kw at hseq
   rw[<-hl] at hseq
   have hlen:(ops.toList.drop n).length=ops.size-n:=by simp
   have:=wpAny_of_seq (P:=P) (md:= .any) (Q':=Q) (ops.toList.drop n) n listed a w (fun j=>by rw[List.getElem?_drop];simp) (by rw[hlen];exact hseq) (hFin a w ⟨listed,inv,hbody⟩)
   rw[hlen] at this
   have he:ops.size-n=f+1:=by omega
   rwa [he] at this
  ·obtain⟨i0,hi0⟩:=Classical.not_forall.1 hbody
   obtain⟨hi0n,hi0l⟩:=Classical.not_imp.1 hi0
   have hle:=hok.le
   obtain⟨k,hk1,hk2,hk3⟩:=Gp hok inv.lsize i0 (by omega) (by simpa using hi0l)
   obtain⟨hun,o,ho,_⟩:=mem_ready.1 hk2
   have hks:k<listed.size:=by rw[inv.lsize];exact(Array.getElem?_eq_some_iff.1 ho).1
   have hunf:=Do hks hun
   have hp:F0 o=true:=by
    cases h:F0 o with
    |true=>rfl
    |false=>have:=hnp k o (by omega) ho h;rw[hunf] at this;cases this
   obtain⟨h1,h2⟩:=hop k o (by omega) ho a w inv.c (Nx hok inv hk2 (by omega) ho)
   have hapart:∀j oj,ops[j]? =some oj->j≠k->listed.getD j true=false->(∀e∈oj.after,Region.binds .any e=true->e.on≠k)->o.apart ops oj=true:=by
    intro j oj hj hjk hjl hno
    have hjs:j<listed.size:=by rw[inv.lsize];exact(Array.getElem?_eq_some_iff.1 hj).1
    have hkj:k<j:=by
     rcases Nat.lt_or_ge j k with h|h
     ·have:=hk3 j h;rw[Do hjs hjl] at this;cases this
     ·omega
    rcases hok.late k o (by omega) ho with⟨_,h⟩|⟨h,_⟩
    ·refine h j oj hj hkj ?_
     cases hd:Pv ops j k with
     |false=>rfl
     |true=>
      simp only[Pv,hj] at hd
      obtain⟨e,hem,hb⟩:=Array.any_eq_true'.1 hd
      simp only[Bool.and_eq_true,beq_iff_eq] at hb
      exact absurd hb.2 (hno e hem hb.1)
    ·rw[hp] at h;cases h
   have hcnt':(listed.setIfInBounds k true).toList.count false=f:=by
    have hg:listed.toList[k]? =some false:=by simp[hks] at hunf;simp[hks,hunf]
    have:=Ha listed.toList k hg
    rw[Array.toList_setIfInBounds];omega
   have hrest:∀v,Inv ops C a0 n Ψ (listed.setIfInBounds k true) (a.put o.dst v) w->wpAny P .any ops Q f (listed.setIfInBounds k true) (a.put o.dst v) w:=fun v hinv=>
    ih _ _ _ hinv hcnt' (fun i oi hi hoi hpi=>getD_set_true (hnp i oi hi hoi hpi)) (fun t ht=>by rw[getD_set_ne false (by omega)];exact htl t ht)
   by_cases hw:Region.wanted o (yielded ops a.tmps)=true
   ·obtain⟨v,hv,hrun⟩:=Pe hp (h1 hw)
    refine wpAny_first ho (Region.noSelect_spec hok.nosel) (fun c a w h=>hQ c a _ _ w h) f listed a w hapart hk2 (.inl ⟨hw,hrun⟩) (hrest v ?_)
    exact Jp hok hm hC hcl inv hk2 (by omega) ho (Rex.refl _ _) hv fun ha=>by
     unfold Az at ha;unfold F0 at hp;cases hop:o.op<;>rw[hop] at ha hp<;>simp at ha hp
   ·have hw':Region.wanted o (yielded ops a.tmps)=false:=by simpa using hw
    refine wpAny_first ho (Region.noSelect_spec hok.nosel) (fun c a w h=>hQ c a _ _ w h) f listed a w hapart hk2 (.inr ⟨hw',rfl⟩) (hrest undef ?_)
    exact Jp hok hm hC hcl inv hk2 (by omega) ho (Rex.refl _ _) (h2 hw') fun _=> .inl rfl
theorem nd_anyS {m:Nat} {Ψ:Nat->Bo} (hok:Ok ops n m) (hm:m=a0.tmps.size) (hC:∀i,i<n->∀u w w',C w->Rex (Fh X i) w w'->Ψ i u w'->C w')
  (hcl:∀i,i<n->Bj (Bl X i) (Ψ i)) (hop:∀i o,i<n->ops[i]? =some o->Ow P ops C (Fh X i) (Aj a0 (Dp ops Ψ i)) o (Ψ i))
  (hQ:∀c a d v w,Q (.panic c) (Act.put a d v) w->Q (.panic c) a w)
  (hFin:∀a w,(∃listed,Inv ops C a0 n Ψ listed a w/\∀i,i<n->listed.getD i false=true)->wpList P ops Q (ops.toList.drop n) a w):
  ∀(f:Nat) (listed:Array Bool) (a:Act) (w:World),Inv ops C a0 n Ψ listed a w->listed.toList.count false=f->(∀t,n<=t->listed.getD t false=false)->wpAny P .any ops Q f listed a w:=by
 intro f
 induction f with
 |zero=>exact fun listed a w inv hcnt htl=>Vs hok hm hC hcl hop hQ hFin 0 listed a w inv hcnt (fun i o hi ho _=>by
   have h0:¬false∈listed.toList:=by rw[<-List.count_eq_zero];exact hcnt
   have hi':i<listed.size:=by rw[inv.lsize];exact(Array.getElem?_eq_some_iff.1 ho).1
   cases hb:listed[i] with
   |true=>simp[hi',hb]
   |false=>exact absurd (by rw[<-hb];exact Array.mem_toList_iff.2 (Array.getElem_mem hi')) h0) htl
 |succ f ih=>
  intro listed a w inv hcnt htl
  by_cases hnp:∀i o,i<n->ops[i]? =some o->F0 o=false->listed.getD i false=true
  ·exact Vs hok hm hC hcl hop hQ hFin (f+1) listed a w inv hcnt hnp htl
  ·have:∃i o,i<n/\ops[i]? =some o/\F0 o=false/\listed.getD i false=false:=by
    apply Classical.byContradiction
    intro hno
    exact hnp fun i o hi ho hp=>by
     cases h:listed.getD i false with
     |true=>rfl
     |false=>exact absurd ⟨i,o,hi,ho,hp,h⟩ hno
   obtain⟨i0,o0,hi0,ho0,hp0,hl0⟩:=this
   have hle:=hok.le
   obtain⟨k,hk1,hk2,hk3⟩:=Gp hok inv.lsize i0 (by omega) hl0
   refine⟨fun h=>(by rw[h] at hk2;cases hk2),fun i hi=> ?_⟩
   have hin:i<n:=by
    rcases Nat.lt_or_ge i n with h|h
    ·exact h
    ·obtain⟨_,o,ho,hall⟩:=mem_ready.1 hi
     rcases hok.late i0 o0 hi0 ho0 with⟨h',_⟩|⟨_,h'⟩
     ·rw[hp0] at h';cases h'
     ·have:=M5 inv 8 i i0 o ho hall (h' i h (Array.getElem?_eq_some_iff.1 ho).1)
      rw[hl0] at this;cases this
   refine wpOp_mono (fun a' w' hinv=>ih _ a' w' hinv ?_ fun t ht=>by rw[getD_set_ne false (by omega)];exact htl t ht) (inv_stepS hok hm hC hcl hop inv hi hin)
   obtain⟨hun,o,ho,_⟩:=mem_ready.1 hi
   have his:i<listed.size:=by rw[inv.lsize];exact(Array.getElem?_eq_some_iff.1 ho).1
   have hunf:=Do his hun
   have hg:listed.toList[i]? =some false:=by simp[his] at hunf;simp[his,hunf]
   have:=Ha listed.toList i hg
   rw[Array.toList_setIfInBounds];omega
theorem Rk {id:Nat} {l:List Oper} {w0:World} (n m b:Nat) (C:World->Prop) (hf:P.follows .mixedOrders=true) (hB:okB l.toArray (n+1) m=true) (hm:m=a0.tmps.size)
  (h0:C w0.drew) (hC:∀w w',C w->Rex [] w w'->C w') (hQ:∀c a d v w,Q (.panic c) (Act.put a d v) w->Q (.panic c) a w) (o:Oper) (ho:l.toArray[n]? =some o)
  (h:Aq P l.toArray C [(n,b)] a0 (fun acc=>∃Φ:Bo,Bj [] Φ/\Ow P l.toArray C [b] (Aj a0 acc) o Φ/\(∀u w,Φ u w->C w)/\∀w,C w->Ar w a0 ((o.dst,Φ)::acc) fun a=>wpList P l.toArray Q (l.drop (n+1)) a w) 0 (l.take n) []):
  (Code.region id l.toArray true).wp P Q a0 w0:=by
 have hok:=Ov hB
 have hle:n+1<=l.length:=by have:=hok.le;simpa using this
 obtain⟨Ψ0,_,h2,h3⟩:=Lo (ops:=l.toArray) (l.take n) 0 [] (fun _ _ _=>True) (fun j hj=>by simp at hj;simp[hj]) rfl h
 have hlen:0+(l.take n).length=n:=by simp;omega
 rw[hlen] at h3
 obtain⟨Φ,hc1,ho1,hΦC,hfin0⟩:=h3
 have pn:Fh [(n,b)] n= [b]:=by simp[Fh]
 have on:Bl [(n,b)] n= []:=by simp[Bl]
 have pi:∀i,i≠n->Fh [(n,b)] i= []:=fun i hi=>by simp[Fh];omega
 obtain⟨Ψ,hΨ⟩:∃Ψ:Nat->Bo,Ψ=fun i=>if i=n then Φ else Ψ0 i:=⟨_,rfl⟩
 have hΨn:Ψ n=Φ:=by rw[hΨ];simp
 have hΨi:∀i,i<n->Ψ i=Ψ0 i:=fun i hi=>by rw[hΨ];simp;omega
 have hacc:∀k,k<=n->Dp l.toArray Ψ k=Dp l.toArray Ψ0 k:=fun k hk=>H9 k fun i hi=>hΨi i (by omega)
 have hcl:∀i,i<n+1->Bj (Bl [(n,b)] i) (Ψ i):=fun i hi=>by
  by_cases hin:i=n
  ·subst hin;rw[hΨn,on];exact hc1
  ·rw[hΨi i (by omega)];exact(h2 i (by omega) (by omega)).1
 have hop:∀i o,i<n+1->l.toArray[i]? =some o->Ow P l.toArray C (Fh [(n,b)] i) (Aj a0 (Dp l.toArray Ψ i)) o (Ψ i):=fun i o1 hi ho'=>by
  by_cases hin:i=n
  ·subst hin
   rw[ho] at ho';injection ho' with e;subst e
   rw[hΨn,pn,hacc i (Nat.le_refl _)];exact ho1
  ·obtain⟨_,o',ho'',h⟩:=h2 i (by omega) (by omega)
   rw[ho''] at ho';injection ho' with e;subst e
   rw[hΨi i (by omega),hacc i (by omega)];exact h
 have hCC:∀i,i<n+1->∀u w w',C w->Rex (Fh [(n,b)] i) w w'->Ψ i u w'->C w':=fun i hi u w w' hw hR hu=>by
  by_cases hin:i=n
  ·subst hin;rw[hΨn] at hu;exact hΦC u w' hu
  ·rw[pi i hin] at hR;exact hC w w' hw hR
 refine wp_region_any hf ?_
 refine nd_anyS (X:= [(n,b)]) hok hm hCC hcl hop hQ ?_ _ _ _ _ ⟨h0,rfl,rfl,by simp,?_,?_,?_,?_,?_,?_⟩ (by simp) (fun t _=>getD_replicate_false _ t)
 ·rintro a w ⟨listed,inv,hall⟩
  have hex:∀i,∃v,i<n+1->Ψ i v w/\∀d,Cf l.toArray i=some d->v=a.tmps.getD d undef:=by
   intro i
   by_cases hi:i<n+1
   ·cases hd:Cf l.toArray i with
    |none=>
     obtain⟨u,hu⟩:=inv.eff i hi (hall i hi) hd
     exact⟨u,fun _=>⟨hu,fun d h=>by cases h⟩⟩
    |some d=>exact⟨a.tmps.getD d undef,fun _=>⟨inv.val i hi (hall i hi) d hd,fun d' h=>by injection h with h;rw[h]⟩⟩
   ·exact⟨undef,fun h=>absurd h hi⟩
  let val:Nat->Value:=fun i=>(hex i).choose
  have hval:∀i,i<n+1->Ψ i (val i) w/\∀d,Cf l.toArray i=some d->val i=a.tmps.getD d undef:=fun i hi=>(hex i).choose_spec hi
  have ha:a=F9 l.toArray val a0 (n+1):=by
   have ht:a.tmps=(F9 l.toArray val a0 (n+1)).tmps:=by
    apply Array.ext
    ·rw[Jk,inv.size]
    ·intro s h1 h2
     have hg:a.tmps.getD s undef=(F9 l.toArray val a0 (n+1)).tmps.getD s undef:=by
      by_cases hw:∃i,i<n+1/\Cf l.toArray i=some s
      ·obtain⟨i,hi,hw⟩:=hw
       rw[Lv hok hm val s (n+1) (Nat.le_refl _) i hi hw,(hval i hi).2 s hw]
      ·rw[Lw val s (n+1) fun i hi hwi=>hw ⟨i,hi,hwi⟩]
       exact inv.old s fun i hi _ hwi=>hw ⟨i,hi,hwi⟩
     simpa [h1,h2] using hg
   have hd:a.defers=(F9 l.toArray val a0 (n+1)).defers:=by rw[Hp,inv.defers]
   cases a;cases hp:F9 l.toArray val a0 (n+1);rw[hp] at ht hd;simp at ht hd;subst ht;subst hd;rfl
  have hlast:Dp l.toArray Ψ (n+1)=(o.dst,Φ)::Dp l.toArray Ψ0 n:=by
   show (Cf l.toArray n,Ψ n)::Dp l.toArray Ψ n=_
   rw[hΨn,hacc n (Nat.le_refl _)]
   simp[Cf,ho]
  have hfin1:=hfin0 w inv.c
  rw[<-hlast] at hfin1
  have hfin:=T7 (ops:=l.toArray) (a0:=a0) (val:=val) (n+1) _ (fun i hi=>(hval i hi).1) hfin1
  rw[<-ha] at hfin
  simpa using hfin
 ·intro i o ho hl;rw[getD_replicate_false] at hl;cases hl
 ·intro i hi hl;rw[getD_replicate_false] at hl;cases hl
 ·intro i hi hl;rw[getD_replicate_false] at hl;cases hl
 ·intro s _;rfl
 ·intro i o d hi hl;rw[getD_replicate_false] at hl;cases hl
 ·intro i o d j o' d' hi hj hij hl;rw[getD_replicate_false] at hl;cases hl
end
end Go.Proofs.YtidfcoooccblaaaGreat
