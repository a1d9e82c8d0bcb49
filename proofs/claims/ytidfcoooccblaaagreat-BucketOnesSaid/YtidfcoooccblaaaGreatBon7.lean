/- Parts of the proof that follows. No condition. -/
import Derived.Laws.AppendOwnNone
import Derived.Lib.OthersKept
import Derived.Lib.RuneBytes
import Derived.Test.YtidfcoooccblaaaGreatBon6
set_option maxRecDepth 100000
set_option maxHeartbeats 8000000
set_option linter.unusedSimpArgs false
set_option linter.unusedVariables false
namespace Go.Proofs.YtidfcoooccblaaaGreat
open Go.RowKit Go.Shelf
theorem Yh {W:World} {b b':Nat} {e:TypeId} {s:Nat} {v:Value} {k:Nat} {xs:List Value} (h:W.ownsRow b e s v k xs) (hb:b'<=b):W.ownsRow b' e s v k xs:=by
 obtain⟨h1,h2|⟨g,cap,cur,e1,hg,r⟩⟩:=h
 ·exact⟨h1,.inl h2⟩
 ·exact⟨h1,.inr ⟨g,cap,cur,e1,Nat.le_trans hb hg,r⟩⟩
theorem Je {T:TypeId} {W:World} {l:Nat} {o:Obj} (o':Obj) (hl:W.heap[l]? =some o) (ho:o.isCells=false):Fp T W (W.putObj l o'):=by
 intro b cs f hb
 rw[World.putObj_heap_other]
 ·exact hb
 ·rintro rfl
  rw[hb] at hl
  cases hl
  cases ho
theorem Pu {T:TypeId} {A B:World} (h:Below A.heap.size A B):Fp T A B:=fun b cs f hb=>(h.block b (Cv hb)).trans hb
theorem collectI (gf:Nat) (lb:Array Value) (xs:List Int) (hlen:xs.length<=1000000) (w w0:World) (hw0:Below w0.heap.size w0 w) (Kp:World->World->Prop) (enters:∀args w,(callFunc gf args).run Tryz.prog w= .ok (.enter gf args) w)
  (hKp:∀ {A B},Below w.heap.size A B->(∀T,T≠96->T≠2->Fp T A B)->Kp A B) (hKt:∀ {A B C},Kp A B->Kp B C->Kp A C) (hKb:∀(W:World) (l:Nat) (o o':Obj),w.heap.size<=l->W.heap[l]? =some o->o.isCells=false->o.isWalk=false->Kp W (W.putObj l o'))
  (hseq:SeqStopsK Fence.wide 2 Tryz.prog gf lb (fun x:Int=> #[Value.int .i64 x]) Kp (fun ys=>ys=xs) (fun pre=>pre<+:xs) xs.length w0):
  Calls Tryz.prog 162 #[.func (.func gf) #[] lb] w fun e W'=>∃v,e= .returned v/\W'.ownsRow w.heap.size 2 1 v xs.length (xs.map (Value.int .i64))/\Below w.heap.size w W':=by
 have c1:=Hd (callsIn_wide.1 (Zq gf lb xs hlen w w0 hw0 Kp enters hKp hKt hKb hseq))
 clear hKp hKt hKb hseq enters hw0
 go_enter Tryz.func162,Tryz.ntmps162
 go_wp2_with fail
 refine c1.out.mono ?_
 rintro e w1 ⟨v,rfl,hv,hB⟩
 replace hv:=Hd hv
 replace hB:=Hd hB
 go_wp2
 go_ret
 exact⟨v,rfl,hv.out,hB.out⟩
theorem all_w (p:Option Addr) (len cap:Nat) (w:World):Calls Tryz.prog 163 #[.slice p len cap] w fun e w'=>e= .returned (.func (.func 191) #[] #[.pointer (some ⟨w.heap.size,0,none⟩)])/\w'=w.alloc (.cells #[.slice p len cap] 93):=by
 have hmf:∀(fn:Fn) (first cap:Array Value) (w:World),(Instr.makeFunc fn first cap).run Tryz.prog w= .ok (.func fn first cap) w:=fun _ _ _ _=>rfl
 go_enter Tryz.func163,Tryz.ntmps163
 go_wp2
 go_ret
 exact⟨rfl,rfl⟩
def Xi (w:World) (l:List Ah) (e:Ending) (w':World):Prop:=∃v,e= .returned (.tuple #[v,.int .i64 0])/\w'.ownsRow w.heap.size 2 1 v (Af l).length ((Af l).map (Value.int .i64))/\Below w.heap.size w w'
theorem Ro (p:Option Addr) (cap:Nat) (l:List Ah) (w:World) (Bs:Nat) (hl:Ce l) (h:Ai w p l) (hBs:Blk w Bs #[.slice p l.length cap] 93):
  Calls Tryz.prog 162 #[.func (.func 191) #[] #[.pointer (some ⟨Bs,0,none⟩)]] w fun e W'=>∃v,e= .returned v/\W'.ownsRow w.heap.size 2 1 v (Af l).length ((Af l).map (Value.int .i64))/\Below w.heap.size w W':=by
 have hlt:∀a,p=some a->a.block<w.heap.size:=by
  rintro a rfl
  have:=hl.some'
  obtain⟨b,o,e,k0,_⟩:=h.at' 0 (l[0]'(by omega)) (List.getElem?_eq_getElem (by omega))
  cases e
  exact A8 k0
 have hcnt:=hl.count
 have hlen:=B7 hl
 refine collectI 191 _ (Af l) (by omega) w w (Below.refl _ _) (fun A B=>Below w.heap.size A B/\Fp 144 A B) (enters_of Tryz.func191 (by kernel_rfl) rfl)
  (fun hb hk=>⟨hb,hk _ (by decide) (by decide)⟩) (fun h k=>⟨h.1.trans k.1,h.2.trans k.2⟩) (fun W k o o' hk ho h1 h2=>⟨belowK_b (Nat.le_refl _) W k o o' hk ho h1 h2,Je o' ho h1⟩) ?_
 intro lr J Jx W hW hJ _ hY h0
 exact all1_in 2 (by omega) lr Bs w.heap.size p cap l hl.each (by have:=hl.few;omega) _ (fun h=>h) J Jx _ hJ hY W ((hBs.below hW).cell 0) (h.below hW) hlt hW.size h0
theorem c_Times (p:Option Addr) (cap:Nat) (l:List Ah) (w:World) (hl:Ce l) (h:Ai w p l):Calls Tryz.prog 114 #[.slice p l.length cap] w (Xi w l):=by
 have hlen:=hl.few
 have c1:=fun W (hW:Below w.heap.size w W)=>Ls p cap l W (by omega) (h.below hW)
 rw[(D1 l).2 hl] at c1
 have c2:=Hd (fun W Bs (hW:Below w.heap.size w W) (hb:Blk W Bs #[.slice p l.length cap] 93)=>Ro p cap l W Bs hl (h.below hW) hb)
 have H_c1:=Hd c1
 clear c1
 go_enter Tryz.func114,Tryz.ntmps114
 have c1:=H_c1.out
 go_wp2_with fail
 refine(c1 _ (Aa)).mono ?_
 rintro e w1 ⟨rfl,hb1⟩
 clear c1
 have z1:=hb1.size
 go_wp2_with fail
 refine(all_w _ _ _ _).mono ?_
 rintro e w2 ⟨rfl,rfl⟩
 go_wp2_with fail
 refine(c2.out _ _ (Aa) (Blk.new' rfl)).mono ?_
 rintro e w3 ⟨v,rfl,hv,hB⟩
 replace hv:=Hd hv
 have hBB:Hid (Below w.heap.size w w3):=Hd (Aa)
 clear hB
 go_wp2
 refine bodyPost_ret (v:= .tuple #[v,.int .i64 0]) (by simp[results,Tryz.results114,go_sem]) rfl ⟨v,rfl,Yh hv.out (by simp;omega),hBB.out⟩
attribute [local go_sem] Oper.semAt_some
def Dr (s:A4):List (Int×Int):=(Af s.runs).zip (Fc s)
theorem Mw {s:A4} (hs:C1 s=true):((Dr s).length:Int)=cnt s.runs:=by
 have h1:=B7 (By hs)
 have h2:=Ht hs
 unfold Dr
 simp
 omega
theorem Cx {β:Type} {B:Nat} {J:β->World->Prop} (hJ:AbidesFrom B J) {s:β} {A C:World} (h:J s A) (hb:Below A.heap.size A C):J s C:=
 hJ s A C none h ⟨hb.os,hb.tape,hb.output,hb.size,fun i hi _=>hb.block i hi⟩ (fun r e=>by cases e)
structure KeepsPts (s:A4) (p q:Option Addr) (cap vc Bs n₀:Nat) (A B:World):Prop where
 size:A.heap.size<=B.heap.size
 seg:C7 A s p q->C7 B s p q
 box:Blk A Bs (Dh s p q cap vc) 179->Blk B Bs (Dh s p q cap vc) 179
 nums:∀(b:Nat) (cs:Array Value),n₀<=b->Blk A b cs 2->Blk B b cs 2
def B8 (l:List (Int×Int)):List Value:=l.flatMap fun x=> [.int .i64 x.1,.int .i64 x.2]
theorem G4 (l:List (Int×Int)) (x:Int×Int):B8 (l++ [x])=B8 l++ [.int .i64 x.1,.int .i64 x.2]:=by simp[B8]
theorem Tryz.infoPoint :(Tryz.prog.info? 91).map (fun i=>(i.zero,i.size,i.bytes))=some (some (.agg #[.int .i64 0,.int .i64 0]),2,16):=by kernel_rfl
theorem G6 (W:World) (a b:Value) (t:TypeId) (j:Nat) (u:Value) (h: [a,b][j]? =some u):(W.alloc (.cells #[a,b] t)).cell? ((⟨W.heap.size,0,none⟩:Addr).add j)=some u:=by
 have hb:Blk (W.alloc (.cells #[a,b] t)) W.heap.size #[a,b] t:=Blk.new' rfl
 have hadd:(⟨W.heap.size,0,none⟩:Addr).add j=⟨W.heap.size,j,none⟩:=by unfold Addr.add;split<;>simp_all
 rw[hadd,hb.cell]
 simpa using h
theorem F7 {β:Type} (B:Nat) (t:TypeId) (f:β->Array Value):Own (fun s W=>Blk W B (f s) t):=fun s X Y row hs hg hrow=>by
 refine(hg.block B hs.lt fun e=> ?_).trans hs
 obtain⟨o,ho,hc⟩:=hrow B e.symm
 rw[show X.heap[B]? =_ from hs] at ho;cases ho;cases hc
theorem Ai.keep {w A B:World} {p:Option Addr} {l:List Ah} (h:Ai w p l) (hb:Below w.heap.size A B) (ha:Ai A p l):Ai B p l:=⟨fun i r hr=>by
 obtain⟨b,o,e,k0,k1,k2⟩:=ha.at' i r hr
 obtain⟨b',o',e',q0,_⟩:=h.at' i r hr
 rw[e] at e'
 injection e' with e'
 injection e' with e1 e2
 subst e1
 have hlt:=A8 q0
 exact⟨b,o,e,(hb.cell (p:=⟨b,_,none⟩) hlt).trans k0,(hb.cell (p:=⟨b,_,none⟩) hlt).trans k1,(hb.cell (p:=⟨b,_,none⟩) hlt).trans k2⟩⟩
theorem Au.keep {w A B:World} {p:Option Addr} {l:List Int} (h:Au w p l) (hb:Below w.heap.size A B) (ha:Au A p l):Au B p l:=⟨fun i r hr=>by
 obtain⟨b,o,e,k0⟩:=ha.at' i r hr
 obtain⟨b',o',e',q0⟩:=h.at' i r hr
 rw[e] at e'
 injection e' with e'
 injection e' with e1 e2
 subst e1
 exact⟨b,o,e,(hb.cell (p:=⟨b,_,none⟩) (A8 q0)).trans k0⟩⟩
theorem C7.keep {w A B:World} {s:A4} {p q:Option Addr} (h:C7 w s p q) (hb:Below w.heap.size A B) (ha:C7 A s p q):C7 B s p q:=⟨h.runs.keep hb ha.runs,h.raw.keep hb ha.raw,h.fewR,h.fewV⟩
def PtsIs (s:A4) (B:Nat) (v:Value) (w:World):Prop:=w.ownsRow B 91 2 v (Dr s).length (B8 (Dr s))
end Go.Proofs.YtidfcoooccblaaaGreat
namespace Go.Proofs.YtidfcoooccblaaaGreat
open Go.RowKit

structure Bv (w:World) (p:Option Addr) (l:List (Int×Int)):Prop where
 at':∀(i:Nat) (x:Int×Int),l[i]? =some x->∃b o,p=some ⟨b,o,none⟩/\w.cell? ⟨b,o+i*2,none⟩=some (x.1)/\w.cell? ⟨b,o+i*2+1,none⟩=some (x.2)
theorem Bv.below {w w':World} {p:Option Addr} {l:List (Int×Int)} (h:Bv w p l) (hb:Below w.heap.size w w'):Bv w' p l:=⟨fun i r hr=>by
 obtain⟨b,o,e,h1,h2⟩:=h.at' i r hr
 exact⟨b,o,e,(hb.cell (p:=⟨b,_,none⟩) (A8 h1)).trans h1,(hb.cell (p:=⟨b,_,none⟩) (A8 h1)).trans h2⟩⟩
theorem Bv.alloc {w:World} {p:Option Addr} {l:List (Int×Int)} (h:Bv w p l) (o:Obj):Bv (w.alloc o) p l:=h.below ((Below.refl _ _).alloc (Nat.le_refl _) o)
theorem Bv.calls {w w':World} {p:Option Addr} {l:List (Int×Int)} (h:Bv w p l) (hb:Below w.heap.size w w'):Bv w' p l:=h.below hb
theorem Bv.set' {w:World} {p:Option Addr} {o i:Nat} {v:Value} {l:List (Int×Int)} (h:Bv w p l) (hne:∀a,p=some a->a.block≠o):Bv (w.setCell ⟨o,i,none⟩ v) p l:=⟨fun k r hr=>by
 obtain⟨b,y,e,h1,h2⟩:=h.at' k r hr
 have hc:∀z,(w.setCell ⟨o,i,none⟩ v).cell? ⟨b,z,none⟩=w.cell? ⟨b,z,none⟩:=by
  intro z
  have:=heap_setCell_other w ⟨o,i,none⟩ b v (hne _ e)
  simp only[World.cell?,this]
 exact⟨b,y,e,(hc _).trans h1,(hc _).trans h2⟩⟩
theorem Bv.set {w:World} {g x o i:Nat} {v:Value} {l:List (Int×Int)} (h:Bv w (some ⟨g,x,none⟩) l) (hne:g≠o):Bv (w.setCell ⟨o,i,none⟩ v) (some ⟨g,x,none⟩) l:=h.set' fun a e=>by cases e;exact hne
theorem Bv.drew {w:World} {p:Option Addr} {l:List (Int×Int)} (h:Bv w p l):Bv w.drew p l:=⟨h.at'⟩
theorem Bv.rex {L:List Nat} {w w':World} {p:Option Addr} {l:List (Int×Int)} (h:Bv w p l) (hr:Rex L w w') (hL:L= []):Bv w' p l:=by subst hL;exact h.below hr.below
theorem Q5 :∀(l:List (Int×Int)) (i:Nat) (x:Int×Int),l[i]? =some x->(B8 l)[i*2]? =some (x.1)/\(B8 l)[i*2+1]? =some (x.2)
 | [],i,x,h=>by simp at h
 |y::l,0,x,h=>by
  simp at h
  subst h
  exact⟨rfl,rfl⟩
 |y::l,i+1,x,h=>by
  obtain⟨a,b⟩:=Q5 l i x (by simpa using h)
  have e:B8 (y::l)= .int .i64 y.1:: .int .i64 y.2::B8 l:=rfl
  rw[e,show (i+1)*2=i*2+1+1 by omega]
  exact⟨by simpa using a,by simpa using b⟩
theorem J5 {w:World} {g n:Nat} {t:TypeId} {cur:Array Value} {l:List (Int×Int)} (hb:Blk w g cur t) (ht:cur.toList.take n=B8 l):Bv w (some ⟨g,0,none⟩) l:=⟨fun i x hx=>by
 obtain⟨a,b⟩:=Q5 l i x hx
 refine⟨g,0,rfl,?_,?_⟩
 ·rw[hb.cell,Nat.zero_add];exact Gm ht a
 ·rw[hb.cell,Nat.zero_add];exact Gm ht b⟩
def Fz (a b:Int) (x:Int×Int):Bool:=decide (a<=x.1)&&decide (x.1<=b)
def Nh (a b:Int) (l:List (Int×Int)):List Int:=(l.filter (Fz a b)).map (·.2)
theorem G5 {α:Type} (pr:α->Bool):∀(l:List α) (i j:Nat),(∀k x,l[k]? =some x->(pr x=true↔i<=k/\k<j))->l.filter pr=(l.take j).drop i
 | [],i,j,_=>by simp
 |y::l,i,j,h=>by
  have h0:=h 0 y rfl
  cases j with
  |zero=>
   have ih:=G5 pr l 0 0 (fun k x hx=>(h (k+1) x (by simpa using hx)).trans (by omega))
   have hp:pr y=false:=by
    cases hy:pr y with
    |false=>rfl
    |true=>have:=h0.1 hy;omega
   simp[List.filter_cons,hp]
   simpa using ih
  |succ j=>
   cases i with
   |zero=>
    have ih:=G5 pr l 0 j (fun k x hx=>(h (k+1) x (by simpa using hx)).trans (by omega))
    have hp:pr y=true:=h0.2 ⟨Nat.le_refl _,by omega⟩
    simp[List.filter_cons,hp,ih]
   |succ i=>
    have ih:=G5 pr l i j (fun k x hx=>(h (k+1) x (by simpa using hx)).trans (by omega))
    have hp:pr y=false:=by
     cases hy:pr y with
     |false=>rfl
     |true=>have:=h0.1 hy;omega
    simp[List.filter_cons,hp,ih]
theorem map_pts {s:A4} (hs:C1 s=true):(Dr s).map (·.2)=Fc s:=by
 have h1:=B7 (By hs)
 have h2:=Ht hs
 unfold Dr
 rw[List.map_snd_zip]
 omega
theorem pts_times {s:A4} (hs:C1 s=true) {k:Nat} {x:Int×Int} (h:(Dr s)[k]? =some x):(Af s.runs)[k]? =some x.1/\(Fc s)[k]? =some x.2:=by
 unfold Dr at h
 rw[List.getElem?_zip_eq_some] at h
 exact h
theorem sel_slice {s:A4} (hs:C1 s=true) (a b:Int):Nh a b (Dr s)=if Jt s.runs a<Kk s.runs a b then slice (Fc s) (Jt s.runs a).toNat (Kk s.runs a b).toNat else []:=by
 have hl:=By hs
 obtain⟨i0,i1,i2⟩:=Lj s.runs a hl.each hl.chain
 obtain⟨j0,j1,j2⟩:=Lj s.runs (b+1) hl.each hl.chain
 have hcb:=Ug hl a b
 have key:∀k x,(Dr s)[k]? =some x->(Fz a b x=true↔(Jt s.runs a).toNat<=k/\k<(Kk s.runs a b).toNat):=by
  intro k x hx
  obtain⟨t1,_⟩:=pts_times hs hx
  have e1:=i2 k x.1 t1
  have e2:=j2 k x.1 t1
  have hk:(k:Int)<cnt s.runs:=by
   have:=B7 hl
   have:=(List.getElem?_eq_some_iff.1 t1).1
   omega
  have hm:=Qe s.runs hl x.1 (List.mem_of_getElem? t1)
  simp only[Fz,Bool.and_eq_true,decide_eq_true_eq]
  unfold Jt Kk
  split
  ·omega
  ·split<;>omega
 have:=G5 (Fz a b) (Dr s) _ _ key
 unfold Nh
 rw[this]
 split
 ·rw[List.map_drop,List.map_take,map_pts hs]
  rfl
 ·rw[List.drop_eq_nil_of_le (by simp;omega)]
  rfl
theorem Vo {s:A4} (hs:C1 s=true) (a b:Int):Ez s a b=if Nh a b (Dr s)= [] then (#[.int .i64 0,.int .i64 0,.int .i64 0,.int .i64 0,.int .u64 0],9) else (Nn (Nh a b (Dr s)),0):=by
 have hl:=By hs
 have hcb:=Ug hl a b
 have hlv:=Ht hs
 rw[sel_slice hs a b]
 unfold Ez
 rw[if_pos hs]
 by_cases h:Jt s.runs a<Kk s.runs a b
 ·rw[if_pos h,if_pos h,if_neg (slice_ne (by omega) (by omega))]
 ·rw[if_neg h,if_neg h,if_pos rfl]
structure Be where
 name:ByteArray
 eps:Int
 floor:Int
 last:Int
 scale:Int
 segs:List A4
 opn:List (Int×Int)
def Eh (r:Nat):Bool:=decide (97<=r/\r<=122)||decide (48<=r/\r<=57)
def C3 (s:ByteArray):Nat->Nat->Bool
 |0,_=>true
 |f+1,pos=>if pos<s.size then Eh (Utf8.decode s pos).1&&C3 s f (pos+(Utf8.decode s pos).2) else true
def Hf (s:ByteArray):Bool:=decide (1<=s.size/\s.size<=12)&&C3 s s.size 0
def C0 (s:Be):List Int:=s.segs.flatMap (fun x=>Af x.runs)++s.opn.map (·.1)
def btw (n lo hi:Int):Bool:=decide (lo<=n)&&decide (n<=hi)
def K5 (s:Be):Bool:=Hf s.name&&(btw s.eps 0 1099511627776&&(btw s.scale (-40) 40&&(btw s.floor 0 281474976710656&&btw s.last (-1) 281474976710656)))
def Fd:Int->List A4->Bool
 |_,[]=>true
 |b,x::l=>C1 x&&(decide (b<Bm x.runs)&&Fd (Cy x.runs) l)
def Jg (eps floor:Int) (x:A4):Bool:=decide (x.E<=eps)&&decide (floor<=Cy x.runs)
def Gb (floor:Int) (p:Int×Int):Bool:=btw p.1 floor 281474976710656&&btw p.2 (-2305843009213693952) 2305843009213693952
def Dy:Int->List Int->Bool
 |_,[]=>true
 |b,t::l=>decide (b<t)&&Dy t l
def Ep:Int->List Int->Int
 |b,[]=>b
 |_,t::l=>Ep t l
def Ki (s:Be):Nat:=((C0 s).filter fun t=>decide (s.floor<=t)).length
def Nw (s:Be):Bool:=decide (Ep (-1) (C0 s)<0)||(s.last==Ep (-1) (C0 s))
def Bn (s:Be):Bool:=K5 s&&(Fd (-1) s.segs&&(decide (s.opn.length<32)&&(s.segs.all (Jg s.eps s.floor)&&(s.opn.all (Gb s.floor)&&(Dy (-1) (C0 s)&&(Nw s&&decide (Ki s<=1024)))))))
def Ff (s:Be):Int:=if Bn s=true then 0 else 340
theorem R6 :∀(l:List A4) (b:Int) (x:A4),Fd b (l++ [x])=(Fd b l&&(C1 x&&decide ((l.getLast?.map fun y=>Cy y.runs).getD b<Bm x.runs)))
 | [],b,x=>by simp[Fd]<;>rfl
 |y::l,b,x=>by
  simp only[List.cons_append,Fd]
  rw[R6 l]
  cases l with
  |nil=>simp[Bool.and_assoc]<;>rfl
  |cons z l=>simp[Bool.and_assoc,List.getLast?_cons]<;>rfl
theorem Kz :∀ {l:List A4} {b:Int},Fd b l=true->∀x,x∈l->C1 x=true
 | [],_,_,x,h=>by simp at h
 |y::l,b,hr,x,h=>by
  simp only[Fd,Bool.and_eq_true] at hr
  simp only[List.mem_cons] at h
  rcases h with rfl|h
  ·exact hr.1
  ·exact Kz hr.2.2 x h
theorem Mr :∀(l:List Int) (b t:Int),Dy b (l++ [t])=(Dy b l&&decide (Ep b l<t))
 | [],b,t=>by simp[Dy,Ep]<;>rfl
 |y::l,b,t=>by simp only[List.cons_append,Dy,Ep];rw[Mr l,Bool.and_assoc]<;>rfl
theorem Hu :∀(l:List Int) (b t:Int),Ep b (l++ [t])=t
 | [],_,_=>rfl
 |_::l,_,_=>by simp only[List.cons_append,Ep];exact Hu l _ _
theorem Nk {pre l:List Int} (h:pre<+:l) (b:Int) (hf:Dy b pre=false):Dy b l=false:=by
 obtain⟨t,rfl⟩:=h
 induction pre generalizing b with
 |nil=>simp[Dy] at hf
 |cons y l ih=>
  simp only[List.cons_append,Dy] at hf⊢
  cases hd:decide (b<y) with
  |false=>rfl
  |true=>rw[hd] at hf;simp only[Bool.true_and] at hf⊢;exact ih _ hf
def R4 (a b:Int) (x:A4):List (Int×Int×Int):=((Dr x).filter (Fz a b)).map fun p=>(p.1,p.2,x.E)
def Sc (a b:Int) (l:List (Int×Int)):List (Int×Int×Int):=(l.filter (Fz a b)).map fun p=>(p.1,p.2,0)
def Ej (s:Be) (a b:Int):List (Int×Int×Int):=s.segs.flatMap (R4 (mx a s.floor) b)++Sc (mx a s.floor) b s.opn
def Fa (a b:Int) (x:A4):List (List Int×Int):=if Nh a b (Dr x)= [] then [] else [(Nh a b (Dr x),x.E)]
def D3 (a b:Int) (l:List (Int×Int)):List (List Int×Int):=(l.filter (Fz a b)).map fun p=>([p.2],0)
def Mf (s:Be) (a b:Int):List (List Int×Int):=s.segs.flatMap (Fa (mx a s.floor) b)++D3 (mx a s.floor) b s.opn
def pairs (g:List Int×Int):List (Int×Int):=g.1.map fun v=>(v,g.2)
theorem X2 (a b:Int) (x:A4):(Fa a b x).flatMap pairs=(R4 a b x).map (·.2):=by
 unfold Fa R4
 have e:(Nh a b (Dr x)).map (fun v=>(v,x.E))=(((Dr x).filter (Fz a b)).map fun p=>(p.1,p.2,x.E)).map (·.2):=by
  unfold Nh
  simp[List.map_map,Function.comp_def]
 split
 ·rename_i h
  rw[<-e,h];rfl
 ·simp[pairs,<-e]
theorem Yi (a b:Int) (l:List (Int×Int)):(D3 a b l).flatMap pairs=(Sc a b l).map (·.2):=by
 unfold D3 Sc
 induction l.filter (Fz a b) with
 |nil=>rfl
 |cons x l ih=>simp only[List.map_cons,List.flatMap_cons,ih];rfl
theorem Vn (s:Be) (a b:Int):(Mf s a b).flatMap pairs=(Ej s a b).map (·.2):=by
 unfold Mf Ej
 rw[List.flatMap_append,List.map_append,Yi]
 congr 1
 induction s.segs with
 |nil=>rfl
 |cons x l ih=>simp only[List.flatMap_cons,List.flatMap_append,List.map_append,ih,X2]
def loL (l:List (Int×Int)):List Int:=l.map fun x=>x.1-x.2
def hiL (l:List (Int×Int)):List Int:=l.map fun x=>x.1+x.2
def shA (l:List (Int×Int)):Array Value:= #[.int .i64 l.length,.int .i64 (Bh (loL l)),.int .i64 (Bh (hiL l)),.int .i64 (Bi (loL l)),.int .i64 (Bi (hiL l)),.int .i64 (hiW (Ap (loL l))),.int .u64 (loW (Ap (loL l))),.int .i64 (hiW (Ap (hiL l))),.int .u64 (loW (Ap (hiL l)))]
def D7 (s:Be) (a b:Int):List (Int×Int):=(Ej s a b).map (·.2)
def Cz (s:Be) (a b:Int):Int:=if Bn s=true then (if Ej s a b= [] then 9 else 0) else 340
def Bd (s:Be) (a b:Int):List (Int×Int):=if Bn s=true then D7 s a b else []
theorem J7 (l:List Int) (d:Int) (h:l≠ []):Bh (l.map fun v=>v+d)=Bh l+d:=by
 obtain⟨a,b⟩:=F3 h
 refine Ns (List.mem_map.2 ⟨_,a,rfl⟩) fun v hv=> ?_
 obtain⟨u,hu,rfl⟩:=List.mem_map.1 hv
 have:=b u hu
 omega
theorem J8 (l:List Int) (d:Int) (h:l≠ []):Bi (l.map fun v=>v+d)=Bi l+d:=by
 obtain⟨a,b⟩:=F4 h
 refine Nt (List.mem_map.2 ⟨_,a,rfl⟩) fun v hv=> ?_
 obtain⟨u,hu,rfl⟩:=List.mem_map.1 hv
 have:=b u hu
 omega
theorem J9 (l:List Int) (d:Int):Ap (l.map fun v=>v+d)=Ap l+d*l.length:=by
 induction l with
 |nil=>simp[Ap]
 |cons x l ih=>simp only[List.map_cons,Ap,ih,List.length_cons,Int.natCast_add,Int.mul_add];omega
theorem Sj (g:List Int) (d:Int):loL (pairs (g,d))=g.map fun v=>v+ -d:=by unfold loL pairs;rw[List.map_map];congr 1
theorem Sm (g:List Int) (d:Int):hiL (pairs (g,d))=g.map fun v=>v+d:=by unfold hiL pairs;rw[List.map_map];congr 1
theorem Ym (a b:List (Int×Int)):loL (a++b)=loL a++loL b:=by unfold loL;simp
theorem Y0 (a b:List (Int×Int)):hiL (a++b)=hiL a++hiL b:=by unfold hiL;simp
theorem Nv (g:List Int) (d:Int):(pairs (g,d)).length=g.length:=by simp[pairs]
theorem Qu {l:List (Int×Int)} (h:l≠ []):loL l≠ []:=by unfold loL;simpa using h
theorem Q0 {l:List (Int×Int)} (h:l≠ []):hiL l≠ []:=by unfold hiL;simpa using h
theorem shA_first {g:List Int} (d:Int) (hg:g≠ []):shA ([]++pairs (g,d))= #[.int .i64 (0+g.length),.int .i64 (Bh g-d),.int .i64 (Bh g+d),.int .i64 (Bi g-d),.int .i64 (Bi g+d),.int .i64 (hiW (0+(Ap g-d*g.length))),.int .u64 (loW (0+(Ap g-d*g.length))),.int .i64 (hiW (0+(Ap g+d*g.length))),.int .u64 (loW (0+(Ap g+d*g.length)))]:=by
 unfold shA
 rw[List.nil_append,Sj,Sm,J7 _ _ hg,J7 _ _ hg,J8 _ _ hg,J8 _ _ hg,J9,J9,Nv,Int.neg_mul]
 simp only[Int.zero_add,Int.sub_eq_add_neg]
theorem shA_more {l:List (Int×Int)} {g:List Int} (d:Int) (hl:l≠ []) (hg:g≠ []):shA (l++pairs (g,d))= #[.int .i64 (l.length+g.length),.int .i64 (min (Bh (loL l)) (Bh g-d)),.int .i64 (min (Bh (hiL l)) (Bh g+d)),.int .i64 (max (Bi (loL l)) (Bi g-d)),.int .i64 (max (Bi (hiL l)) (Bi g+d)),.int .i64 (hiW (Ap (loL l)+(Ap g-d*g.length))),.int .u64 (loW (Ap (loL l)+(Ap g-d*g.length))),.int .i64 (hiW (Ap (hiL l)+(Ap g+d*g.length))),.int .u64 (loW (Ap (hiL l)+(Ap g+d*g.length)))]:=by
 have h1:∀d,(g.map fun v=>v+d)≠ []:=fun d=>by simpa using hg
 unfold shA
 rw[Ym,Y0,Sj,Sm,Pg (Qu hl) (h1 _),Pg (Q0 hl) (h1 _),Pi (Qu hl) (h1 _),Pi (Q0 hl) (h1 _),Em,Em,J7 _ _ hg,J7 _ _ hg,J8 _ _ hg,J8 _ _ hg,J9,J9,List.length_append,Nv,Int.neg_mul,Int.natCast_add]
 simp only[Int.sub_eq_add_neg]
def l0:List Ah:= [⟨10,2,4⟩]
def s0:A4:=⟨2,l0,5,0,1,2,[],3⟩
theorem ints_nil (w:World) (q:Option Addr):Au w q []:=⟨fun i x h=>by simp at h⟩

def TyP (w:World) (p:Option Addr) (T:TypeId):Prop:=∀a,p=some a->∃cur fz,w.heap[a.block]? =some (.cells cur T fz)
theorem TyP.below {w w':World} {p:Option Addr} {T:TypeId} (h:TyP w p T) (hb:Below w.heap.size w w'):TyP w' p T:=fun a e=>by
 obtain⟨cur,fz,hh⟩:=h a e
 exact⟨cur,fz,(hb.block a.block (Array.getElem?_eq_some_iff.1 hh).1).trans hh⟩
theorem TyP.alloc {w:World} {p:Option Addr} {T:TypeId} (h:TyP w p T) (o:Obj):TyP (w.alloc o) p T:=h.below ((Below.refl _ _).alloc (Nat.le_refl _) o)
theorem TyP.setCell {w:World} {p:Option Addr} {T:TypeId} (h:TyP w p T) (a:Addr) (v:Value):TyP (w.setCell a v) p T:=fun b e=>by
 obtain⟨cur,fz,hh⟩:=h b e
 by_cases hb:b.block=a.block
 ·refine⟨if a.spot.isSome then cur else cur.setIfInBounds a.off v,fz,?_⟩
  simp only[World.setCell,Array.getElem?_modify]
  rw[if_pos hb.symm,hh];rfl
 ·exact⟨cur,fz,(heap_setCell_other w a b.block v hb).trans hh⟩
theorem TyP.new {w:World} {cs:Array Value} {T:TypeId} {g:Nat} (h:w.heap.size=g):TyP (w.alloc (.cells cs T)) (some ⟨g,0,none⟩) T:=fun a e=>by
 subst h
 cases e
 exact⟨cs,(0,0),heap_alloc_new w _⟩
theorem Ai.take {w:World} {p:Option Addr} {l:List Ah} (h:Ai w p l) (k:Nat):Ai w p (l.take k):=⟨fun i r hr=>h.at' i r (by
 rw[List.getElem?_take] at hr
 split at hr
 ·exact hr
 ·cases hr)⟩
theorem Au.take {w:World} {p:Option Addr} {l:List Int} (h:Au w p l) (k:Nat):Au w p (l.take k):=⟨fun i r hr=>h.at' i r (by
 rw[List.getElem?_take] at hr
 split at hr
 ·exact hr
 ·cases hr)⟩
structure Came (w:World) (s:A4) (p q:Option Addr) (cap vc:Nat):Prop where
 runs:Ai w p s.runs
 raw:Au w q s.raw
 nilR:p=none->s.runs= []/\cap=0
 nilV:q=none->s.raw= []/\vc=0
 capR:s.runs.length<=cap
 capV:s.raw.length<=vc
 maxR:s.runs.length<=9223372036854775807
 maxV:s.raw.length<=9223372036854775807
def ownS (s:A4):A4:=⟨s.K,s.runs.take 300,s.A,s.R,s.n,s.d,s.raw.take 300,s.E⟩
def OwnOut (s:A4) (w:World) (e:Ending) (w':World):Prop:=∃p' cap' q' vc',e= .returned (.agg (Dh (ownS s) p' q' cap' vc'))/\Below w.heap.size w w'/\C7 w' (ownS s) p' q'/\(ownS s).raw.length<=vc'
def OwnOutT (s:A4) (w:World) (e:Ending) (w':World):Prop:=∃p' cap' q' vc',e= .returned (.agg (Dh (ownS s) p' q' cap' vc'))/\Below w.heap.size w w'/\C7 w' (ownS s) p' q'/\(ownS s).raw.length<=vc'/\TyP w' p' 144/\TyP w' q' 2
structure Pz (w:World) (s:A4) (p q:Option Addr):Prop where
 seg:C7 w s p q
theorem Pz.below {w w':World} {s:A4} {p q:Option Addr} (h:Pz w s p q) (hb:Below w.heap.size w w'):Pz w' s p q:=⟨h.seg.below hb⟩
theorem Pz.alloc {w:World} {s:A4} {p q:Option Addr} (h:Pz w s p q) (o:Obj):Pz (w.alloc o) s p q:=h.below ((Below.refl _ _).alloc (Nat.le_refl _) o)
theorem Pz.rex {L:List Nat} {w w':World} {s:A4} {p q:Option Addr} (h:Pz w s p q) (hr:Rex L w w') (hL:L= []):Pz w' s p q:=by subst hL;exact h.below hr.below
theorem Pz.drew {w:World} {s:A4} {p q:Option Addr} (h:Pz w s p q):Pz w.drew s p q:=⟨⟨⟨h.seg.runs.at'⟩,⟨h.seg.raw.at'⟩,h.seg.fewR,h.seg.fewV⟩⟩
structure Rg (w:World) (b o:Nat) (l:List (Int×Int)):Prop where
 pts:Bv w (some ⟨b,o,none⟩) l
theorem Rg.below {w w':World} {b o:Nat} {l:List (Int×Int)} (h:Rg w b o l) (hb:Below w.heap.size w w'):Rg w' b o l:=⟨h.pts.below hb⟩
theorem Rg.rex {L:List Nat} {w w':World} {b o:Nat} {l:List (Int×Int)} (h:Rg w b o l) (hr:Rex L w w') (hL:L= []):Rg w' b o l:=by subst hL;exact h.below hr.below
theorem Rg.drew {w:World} {b o:Nat} {l:List (Int×Int)} (h:Rg w b o l):Rg w.drew b o l:=⟨⟨h.pts.at'⟩⟩
theorem Rg.cellAt {w:World} {b o:Nat} {l:List (Int×Int)} (h:Rg w b o l) {i:Nat} {x:Int×Int} (hx:l[i]? =some x):w.cell? ⟨b,o+i*2,none⟩=some (x.1)/\w.cell? ⟨b,o+i*2+1,none⟩=some (x.2):=by
 obtain⟨b',o',e,h1,h2⟩:=h.pts.at' i x hx
 cases e
 exact⟨h1,h2⟩
def spE (a b:Int):Int:=if a<=b then 0 else 140
def Qi (l:List (Int×Int)):Int:=if l.all (fun x=>decide (x.1<=x.2))=true then 0 else 140
theorem Hb (a b:Int) (w:World):Cb 96 #[.agg #[a,b]] w (.int .i64 (spE a b)):=by
 unfold spE
 by_cases h:a<=b
 ·rw[if_pos h]
  go_enter Tryz.func96,Tryz.ntmps96
  go_wp2
  go_ret
  exact⟨rfl,Aa⟩
 ·rw[if_neg h]
  have h':b<a:=by omega
  go_enter Tryz.func96,Tryz.ntmps96
  go_wp2
  go_ret
  exact⟨rfl,Aa⟩
def Xx (w:World) (p:Option Addr) (cap:Nat) (l:List (Int×Int)) (a':Act) (W:World):Prop:=
 Below w.heap.size w W/\∃i:Nat,(∃u:Nat->Value,a'= {tmps:= #[.slice p l.length cap,u 1,u 2,u 3,u 4,u 5,.slice p l.length cap,.int .i64 (l.length:Int),.int .i64 (i:Int),u 9,u 10,u 11,u 12,u 13,u 14,u 15,u 16,u 17],defers:= []})/\i<=l.length/\∀k x,k<i->l[k]? =some x->x.1<=x.2
theorem Lf (p:Option Addr) (cap:Nat) (l:List (Int×Int)) (w:World) (hlen:l.length<=1000000) (h:Bv w p l):
  Cb 92 #[.slice p l.length cap] w (.int .i64 (Qi l)):=by
 go_enter Tryz.func92,Tryz.ntmps92
 go_wp2
 refine wp_loop (Xx w p cap l) (fun a' _=>l.length-(Ak (a'.tmps.getD 8 undef)).toNat) ?_ ?_
 ·unfold Xx
  exact⟨Below.refl _ _,0,Ac rfl,Nat.zero_le _,fun k x hk=>by omega⟩
 ·rintro a' W ⟨hW0,i,⟨u,rfl⟩,hi',hall⟩
  have hz:=hW0.size
  replace hall:=Hd hall
  rcases Nat.lt_or_ge i l.length with hlt|hge
  ·obtain⟨⟨x,y⟩,tr⟩:∃r,l[i]? =some r:=⟨l[i]'(by omega),List.getElem?_eq_getElem (by omega)⟩
   obtain⟨b,o,rfl,q0,q1⟩:=(h.below hW0).at' i _ tr
   replace tr:=Hd tr
   simp only at q0 q1
   have cb:=Hb x y
   unfold spE at cb
   by_cases hxy:x<=y
   ·rw[if_pos hxy] at cb
    replace cb:=Hd cb
    replace hxy:=Hd hxy
    go_wp2_with fail
    refine(cb.out _).mono ?_
    rintro e w21 ⟨rfl,hb21⟩
    have z22:=hb21.size
    try simp at z22
    refine Ae W w21 (Bc W.heap.size #[x,y] 33<|Bz) ?_
    rintro hW z23 ⟨⟨b1,yb1,k1,f1⟩,-⟩
    clear hb21
    go_wp2
    rw[show (i:Int)+1=((i+1:Nat):Int) by omega]
    refine⟨?_,by simp[Ak];omega⟩
    unfold Xx
    exact⟨hW0.trans (hW.mono hz),i+1,Ac rfl,by omega,fun k z hk hz=>by
     rcases Nat.lt_or_ge k i with h|h
     ·exact hall.out k z h hz
     ·obtain rfl:k=i:=by omega
      rw[tr.out] at hz
      injection hz with hz
      rw[<-hz];exact hxy.out⟩
   ·rw[if_neg hxy] at cb
    replace cb:=Hd cb
    have hno:=Hd (show Qi l=140 by
     unfold Qi
     rw[if_neg]
     intro hh
     have:=List.all_eq_true.1 hh _ (List.mem_of_getElem? tr.out)
     simp at this
     exact hxy this)
    clear hxy
    go_wp2_with fail
    refine(cb.out _).mono ?_
    rintro e w21 ⟨rfl,hb21⟩
    have z22:=hb21.size
    try simp at z22
    refine Ae W w21 (Bc W.heap.size #[x,y] 33<|Bz) ?_
    rintro hW z23 ⟨⟨b1,yb1,k1,f1⟩,-⟩
    clear hb21
    go_wp2
    go_ret
    exact⟨by rw[hno.out];rfl,hW0.trans (hW.mono hz)⟩
  ·obtain rfl:i=l.length:=by omega
   have hyes:=Hd (show Qi l=0 by
    unfold Qi
    rw[if_pos]
    rw[List.all_eq_true]
    intro x hx
    obtain⟨k,hk⟩:=List.getElem?_of_mem hx
    simpa using hall.out k x (List.getElem?_eq_some_iff.1 hk).1 hk)
   go_wp2
   go_ret
   exact⟨by rw[hyes.out];rfl,hW0⟩
theorem c_spEnd1 (a b:Int) (w:World):Cb 148 #[.agg #[a,b]] w (a):=by
 go_enter Tryz.func148,Tryz.ntmps148
 go_wp2
 go_ret
 exact⟨rfl,Aa⟩
theorem c_spEnd2 (a b:Int) (w:World):Cb 149 #[.agg #[a,b]] w (b):=by
 go_enter Tryz.func149,Tryz.ntmps149
 go_wp2
 go_ret
 exact⟨rfl,Aa⟩
theorem Si {α:Type} {l:List α} {i:Nat} {x:α} (g:α->Int) (h:l[i]? =some x):Ap ((l.take (i+1)).map g)=Ap ((l.take i).map g)+g x:=by
 rw[List.take_add_one,h,List.map_append,Em]
 simp[Ap]
theorem P5 {α:Type} (g:α->Int) (l:List α) (h:∀x,x∈l->I64 (g x)): -(9223372036854775808*l.length)<=Ap (l.map g)/\Ap (l.map g)<=9223372036854775808*l.length:=by
 have:=Gz (l:=l.map g) (B:=9223372036854775808) (fun v hv=>by
  obtain⟨x,hx,rfl⟩:=List.mem_map.1 hv
  have:=h x hx
  unfold I64 at this
  omega)
 simpa using this
theorem Uz (S x:Int) (hS: -18446744073709551616000000<=S/\S<=18446744073709551616000000) (hx:I64 x):
  wrap64 (hiW S+wrap64 (x/9223372036854775808+wrap64 (Jb (loW S) (IntKind.u64.wrap x) 0)))=hiW (S+x)/\Fs (loW S) (IntKind.u64.wrap x) 0=loW (S+x):=by
 obtain⟨h1,h2⟩:=hx
 rw[C5 x,show x%18446744073709551616=loW x from rfl]
 have w1:∀z:Int,-1000000000000000000<=z->z<=1000000000000000000->wrap64 z=z:=fun z h1 h2=>by rw[Al];omega
 have e1:x/9223372036854775808=hiW x:=by unfold hiW;omega
 have e2:Jb (loW S) (loW x) 0=hiW (S+x)-hiW S-hiW x:=by unfold Jb loW hiW;omega
 have b1:0<=Jb (loW S) (loW x) 0/\Jb (loW S) (loW x) 0<=1:=by unfold Jb loW;omega
 have b2: -1<=hiW x/\hiW x<=0:=by unfold hiW;omega
 have b3: -1000001<=hiW S/\hiW S<=1000001:=by unfold hiW;omega
 refine⟨?_,?_⟩
 ·rw[e1,w1 (Jb (loW S) (loW x) 0) (by omega) (by omega),w1 (hiW x+_) (by omega) (by omega),w1 (hiW S+_) (by omega) (by omega),e2];omega
 ·unfold Fs loW;omega
theorem Z2 (S:Int) (hS: -18446744073709551616000000<=S/\S<=18446744073709551616000000):wrap64 (loW S)=wrap64 S/\(hiW S==wrap64 (loW S)/9223372036854775808)=inI S:=by
 refine⟨by rw[Al,Al];unfold loW;omega,?_⟩
 rw[Bool.eq_iff_iff,Al]
 unfold inI
 simp only[beq_iff_eq,decide_eq_true_eq]
 unfold I64 hiW loW
 omega
def S9 (w:World) (p:Option Addr) (cap:Nat) (l:List (Int×Int)) (a':Act) (W:World):Prop:=
 Below w.heap.size w W/\∃i:Nat,(∃u:Nat->Value,a'= {tmps:= #[.slice p l.length cap,.func (.func 148) #[] #[],u 2,u 3,u 4,u 5,.int .u64 (loW (Ap ((l.take i).map (·.1)))),.int .i64 (hiW (Ap ((l.take i).map (·.1)))),u 8,u 9,u 10,u 11,.slice p l.length cap,.int .i64 (l.length:Int),.int .i64 (i:Int),u 15,u 16,u 17,u 18,u 19,u 20,u 21,u 22,u 23,u 24,u 25,u 26,u 27,u 28,u 29,u 30,u 31,u 32,u 33,u 34,u 35,u 36,u 37,u 38,u 39,u 40,u 41,u 42],defers:= []})/\i<=l.length
theorem c_spTot1 (p:Option Addr) (cap:Nat) (l:List (Int×Int)) (w:World) (hlen:l.length<=1000000) (h:Bv w p l) (hv:∀x,x∈l->I64 x.1/\I64 x.2):
  Cb 94 #[.slice p l.length cap,.func (.func 148) #[] #[]] w (.tuple #[.int .i64 (wrap64 (Ap (l.map (·.1)))),.bool (inI (Ap (l.map (·.1))))]):=by
 have hv0:=hv
 replace hv:=Hd hv
 go_enter Tryz.func94,Tryz.ntmps94
 go_wp2
 refine wp_loop (S9 w p cap l) (fun a' _=>l.length-(Ak (a'.tmps.getD 14 undef)).toNat) ?_ ?_
 ·unfold S9
  exact⟨Below.refl _ _,0,Ac rfl,Nat.zero_le _⟩
 ·rintro a' W ⟨hW0,i,⟨u,rfl⟩,hi'⟩
  have hz:=hW0.size
  rcases Nat.lt_or_ge i l.length with hlt|hge
  ·obtain⟨⟨x,y⟩,tr⟩:∃r,l[i]? =some r:=⟨l[i]'(by omega),List.getElem?_eq_getElem (by omega)⟩
   obtain⟨b,o,rfl,q0,q1⟩:=(h.below hW0).at' i _ tr
   have hx:=hv.out _ (List.mem_of_getElem? tr)
   have hstep:=Hd (Si (fun z:Int×Int=>z.1) tr)
   have hbd:=P5 (fun z:Int×Int=>z.1) (l.take i) (fun z hz=>(hv.out z (List.mem_of_mem_take hz)).1)
   have hbl:(l.take i).length<=1000000:=by rw[List.length_take];omega
   have hxv:I64 x:=hx.1
   clear hx tr
   simp only at q0 q1
   obtain⟨S,hS⟩:∃S,Ap ((l.take i).map (·.1))=S:=⟨_,rfl⟩
   rw[hS] at hstep hbd⊢
   clear hS
   obtain⟨e1,e2⟩:=Uz S x (by omega) hxv
   have hL:=Jd S
   have hL2:=Fm x
   obtain⟨e4,e5⟩:=hxv
   clear hbd hbl
   have a1:=Xf (loW S) (IntKind.u64.wrap x) 0 hL.1 hL2.1 (by decide) (by decide)
   obtain⟨HI,hHI⟩:∃z,hiW S=z:=⟨_,rfl⟩
   obtain⟨LO,hLO⟩:∃z,loW S=z:=⟨_,rfl⟩
   rw[hHI] at e1⊢
   rw[hLO] at e1 e2 a1⊢
   replace e1:=Hd e1
   replace e2:=Hd e2
   clear hHI hLO hL hL2
   go_wp2_with fail
   refine(c_spEnd1 _ _ _).mono ?_
   rintro e w21 ⟨rfl,hb21⟩
   have z22:=hb21.size
   try simp at z22
   refine Ae W w21 (Bc W.heap.size #[x,y] 33<|Bz) ?_
   rintro hW z23 ⟨⟨b1,yb1,k1,f1⟩,-⟩
   clear hb21
   go_wp2
   rw[show (i:Int)+1=((i+1:Nat):Int) by omega]
   refine⟨?_,by simp[Ak];omega⟩
   unfold S9
   exact⟨hW0.trans (hW.mono hz),i+1,by rw[hstep.out,<-e1.out,<-e2.out];exact Ac rfl,by omega⟩
  ·obtain rfl:i=l.length:=by omega
   rw[List.take_length]
   have hbd:=P5 (fun z:Int×Int=>z.1) l (fun z hz=>(hv.out z hz).1)
   obtain⟨S,hS⟩:∃S,Ap (l.map (·.1))=S:=⟨_,rfl⟩
   rw[hS] at hbd⊢
   have e1:=Hd (Z2 S (by omega))
   replace hS:=Hd hS
   clear hbd
   go_wp2
   go_ret2
   refine⟨?_,hW0⟩
   rw[hS.out,<-e1.out.1,<-e1.out.2]
   rfl
def S8 (w:World) (p:Option Addr) (cap:Nat) (l:List (Int×Int)) (a':Act) (W:World):Prop:=
 Below w.heap.size w W/\∃i:Nat,(∃u:Nat->Value,a'= {tmps:= #[.slice p l.length cap,.func (.func 149) #[] #[],u 2,u 3,u 4,u 5,.int .u64 (loW (Ap ((l.take i).map (·.2)))),.int .i64 (hiW (Ap ((l.take i).map (·.2)))),u 8,u 9,u 10,u 11,.slice p l.length cap,.int .i64 (l.length:Int),.int .i64 (i:Int),u 15,u 16,u 17,u 18,u 19,u 20,u 21,u 22,u 23,u 24,u 25,u 26,u 27,u 28,u 29,u 30,u 31,u 32,u 33,u 34,u 35,u 36,u 37,u 38,u 39,u 40,u 41,u 42],defers:= []})/\i<=l.length
theorem c_spTot2 (p:Option Addr) (cap:Nat) (l:List (Int×Int)) (w:World) (hlen:l.length<=1000000) (h:Bv w p l) (hv:∀x,x∈l->I64 x.1/\I64 x.2):
  Cb 94 #[.slice p l.length cap,.func (.func 149) #[] #[]] w (.tuple #[.int .i64 (wrap64 (Ap (l.map (·.2)))),.bool (inI (Ap (l.map (·.2))))]):=by
 have hv0:=hv
 replace hv:=Hd hv
 go_enter Tryz.func94,Tryz.ntmps94
 go_wp2
 refine wp_loop (S8 w p cap l) (fun a' _=>l.length-(Ak (a'.tmps.getD 14 undef)).toNat) ?_ ?_
 ·unfold S8
  exact⟨Below.refl _ _,0,Ac rfl,Nat.zero_le _⟩
 ·rintro a' W ⟨hW0,i,⟨u,rfl⟩,hi'⟩
  have hz:=hW0.size
  rcases Nat.lt_or_ge i l.length with hlt|hge
  ·obtain⟨⟨x,y⟩,tr⟩:∃r,l[i]? =some r:=⟨l[i]'(by omega),List.getElem?_eq_getElem (by omega)⟩
   obtain⟨b,o,rfl,q0,q1⟩:=(h.below hW0).at' i _ tr
   have hx:=hv.out _ (List.mem_of_getElem? tr)
   have hstep:=Hd (Si (fun z:Int×Int=>z.2) tr)
   have hbd:=P5 (fun z:Int×Int=>z.2) (l.take i) (fun z hz=>(hv.out z (List.mem_of_mem_take hz)).2)
   have hbl:(l.take i).length<=1000000:=by rw[List.length_take];omega
   have hxv:I64 y:=hx.2
   clear hx tr
   simp only at q0 q1
   obtain⟨S,hS⟩:∃S,Ap ((l.take i).map (·.2))=S:=⟨_,rfl⟩
   rw[hS] at hstep hbd⊢
   clear hS
   obtain⟨e1,e2⟩:=Uz S y (by omega) hxv
   have hL:=Jd S
   have hL2:=Fm y
   obtain⟨e4,e5⟩:=hxv
   clear hbd hbl
   have a1:=Xf (loW S) (IntKind.u64.wrap y) 0 hL.1 hL2.1 (by decide) (by decide)
   obtain⟨HI,hHI⟩:∃z,hiW S=z:=⟨_,rfl⟩
   obtain⟨LO,hLO⟩:∃z,loW S=z:=⟨_,rfl⟩
   rw[hHI] at e1⊢
   rw[hLO] at e1 e2 a1⊢
   replace e1:=Hd e1
   replace e2:=Hd e2
   clear hHI hLO hL hL2
   go_wp2_with fail
   refine(c_spEnd2 _ _ _).mono ?_
   rintro e w21 ⟨rfl,hb21⟩
   have z22:=hb21.size
   try simp at z22
   refine Ae W w21 (Bc W.heap.size #[x,y] 33<|Bz) ?_
   rintro hW z23 ⟨⟨b1,yb1,k1,f1⟩,-⟩
   clear hb21
   go_wp2
   rw[show (i:Int)+1=((i+1:Nat):Int) by omega]
   refine⟨?_,by simp[Ak];omega⟩
   unfold S8
   exact⟨hW0.trans (hW.mono hz),i+1,by rw[hstep.out,<-e1.out,<-e2.out];exact Ac rfl,by omega⟩
  ·obtain rfl:i=l.length:=by omega
   rw[List.take_length]
   have hbd:=P5 (fun z:Int×Int=>z.2) l (fun z hz=>(hv.out z hz).2)
   obtain⟨S,hS⟩:∃S,Ap (l.map (·.2))=S:=⟨_,rfl⟩
   rw[hS] at hbd⊢
   have e1:=Hd (Z2 S (by omega))
   replace hS:=Hd hS
   clear hbd
   go_wp2
   go_ret2
   refine⟨?_,hW0⟩
   rw[hS.out,<-e1.out.1,<-e1.out.2]
   rfl
theorem Wn (r:Nat) (w:World):Cb 161 #[.int .i32 r] w (.bool (Eh r)):=by
 go_enter Tryz.func161,Tryz.ntmps161
 go_upto_region 1 with(fail)
 refine Ad w (Bz) ?_
 rintro W1 hW z2 hL
 refine B3 15 17 hW hL ?_
 iterate 3 refine dA ?_
 iterate 2 refine gA ?_
 refine pA ?_
 refine dA ?_
 iterate 3 refine gA ?_
 iterate 2 refine gB ?_
 refine pgA ?_
 refine pO ?_
 refine dA ?_
 clear hW hL
 rintro W3 hW z4 hL
 simp only[ndR]
 intros
 repeat (rename Ao _ _ _ _=>hgd;clear hgd)
 simp only[ndS]
 refine wpList_nil ?_
 obtain⟨-⟩:=hL
 go_wp2
 refine bodyPost_ret (v:= .bool ((decide (97<=(r:Int))&&decide ((r:Int)<=122))||(decide (48<=(r:Int))&&decide ((r:Int)<=57)))) (by simp[results,Tryz.results161,go_sem]) rfl ⟨?_,by exact Aa⟩
 congr 2
 unfold Eh
 rw[Bool.eq_iff_iff]
 simp only[Bool.or_eq_true,Bool.and_eq_true,decide_eq_true_eq]
 omega
theorem N8 (n lo hi:Int) (w:World):Cb 55 #[n,lo,hi] w (.bool (btw n lo hi)):=by
 unfold btw
 go_enter Tryz.func55,Tryz.ntmps55
 go_upto_region 1 with(fail)
 refine Ad w (Bz) ?_
 rintro W1 hW z2 hL
 refine B3 9 15 hW hL ?_
 iterate 4 refine dA ?_
 iterate 3 refine gA ?_
 refine pA ?_
 refine dA ?_
 clear hW hL
 rintro W3 hW z4 hL
 simp only[ndR]
 intros
 repeat (rename Ao _ _ _ _=>hgd;clear hgd)
 simp only[ndS]
 refine wpList_nil ?_
 obtain⟨-⟩:=hL
 go_wp2
 refine bodyPost_ret (by simp[results,Tryz.results55,go_sem]) rfl ⟨rfl,by exact Aa⟩
theorem c_srScl (n:Int) (w:World):Cb 109 #[n] w (.bool (btw n (-40) 40)):=by
 unfold btw
 go_enter Tryz.func109,Tryz.ntmps109
 go_upto_region 1 with(fail)
 refine Ad w (Bz) ?_
 rintro W1 hW z2 hL
 refine B3 7 9 hW hL ?_
 iterate 3 refine dA ?_
 iterate 2 refine gA ?_
 refine pA ?_
 refine dA ?_
 clear hW hL
 rintro W3 hW z4 hL
 simp only[ndR]
 intros
 repeat (rename Ao _ _ _ _=>hgd;clear hgd)
 simp only[ndS]
 refine wpList_nil ?_
 obtain⟨-⟩:=hL
 go_wp2
 refine bodyPost_ret (by simp[results,Tryz.results109,go_sem]) rfl ⟨rfl,by exact Aa⟩
theorem width_pos (s:ByteArray) (pos:Nat) (h:pos<s.size):1<=(Utf8.decode s pos).2:=by
 by_cases ha:(s[pos]'h).toNat<128
 ·rw[decode_ascii s pos h ha]
  exact Nat.le_refl _
 ·exact(decode_high s pos h (by omega)).2
def nmRel (w:World) (s:ByteArray) (ok:Bool) (a':Act) (W:World):Prop:=
 Below w.heap.size w W/\∃pos f:Nat,(∃u:Nat->Value,a'= {tmps:= #[.string s,u 1,u 2,.bool ok,u 4,u 5,u 6,u 7,u 8,u 9,u 10,u 11,u 12,u 13,u 14,.pointer (some ⟨w.heap.size,0,none⟩),u 16,u 17,u 18,u 19,u 20,u 21,u 22],defers:= []})/\W.heap[w.heap.size]? =some (.stringIter s pos)/\s.size<=pos+f/\C3 s f pos=C3 s s.size 0
theorem c_recName (s:ByteArray) (w:World):Cb 108 #[.string s] w (.bool (Hf s)):=by
 go_enter Tryz.func108,Tryz.ntmps108
 go_upto_region 1 with(fail)
 refine wp_scope_straight (wp_seq ?_)
 refine Ad w (Bz) ?_
 rintro W1 hW z2 hL
 refine B3 9 23 hW hL ?_
 iterate 4 refine dA ?_
 iterate 3 refine gA ?_
 refine pA ?_
 refine dA ?_
 clear hW hL
 rintro W3 hW z4 hL
 simp only[ndR]
 intros
 repeat (rename Ao _ _ _ _=>hgd;clear hgd)
 simp only[ndS]
 refine wpList_nil ?_
 obtain⟨-⟩:=hL
 have hok:(decide (1<=(s.size:Int))&&decide ((s.size:Int)<=12))=decide (1<=s.size/\s.size<=12):=by
  rw[Bool.eq_iff_iff]
  simp only[Bool.and_eq_true,decide_eq_true_eq]
  omega
 rw[hok]
 obtain⟨ok,ho⟩:∃b,decide (1<=s.size/\s.size<=12)=b:=⟨_,rfl⟩
 rw[ho]
 replace ho:=Hd ho
 clear hok
 simp only[Exit.then]
 refine wp_seq (wp_label ?_)
 go_wp2
 refine wp_loop (nmRel W3 s ok) (fun _ W=>s.size-W.iterPos W3.heap.size) ?_ ?_
 ·unfold nmRel
  have hit:=World.iter_heap W3 s 0
  exact⟨(Below.refl _ _).alloc (Nat.le_refl _) _,0,s.size,Ac rfl,by simpa using hit,by omega,rfl⟩
 ·rintro a' W ⟨hW0,pos,f,⟨u,rfl⟩,hit,hf,hlet⟩
  have hz:=hW0.size
  have hlt:=(Array.getElem?_eq_some_iff.1 hit).1
  by_cases hp:pos<s.size
  ·have hnx:∀ty,(Instr.next (.pointer (some ⟨W3.heap.size,0,none⟩)) true ty).run Tryz.prog W=_:=fun ty=>Lib.run_next_any_at W W3.heap.size s pos ty hit hp
   have hwd:=width_pos s pos hp
   have hit2:=Lib.iterAt_heap W W3.heap.size s pos (pos+(Utf8.decode s pos).2) hit
   have hbw2:=Lib.below_iterAt hW0 (k:=W3.heap.size) (Nat.le_refl _) s (pos+(Utf8.decode s pos).2)
   obtain⟨f,rfl⟩:∃g,f=g+1:=⟨f-1,by omega⟩
   have hst:C3 s (f+1) pos=(Eh (Utf8.decode s pos).1&&C3 s f (pos+(Utf8.decode s pos).2)):=by simp[C3,hp]
   rw[hst] at hlet
   obtain⟨r,hr⟩:∃r,(Utf8.decode s pos).1=r:=⟨_,rfl⟩
   obtain⟨d,hd⟩:∃d,(Utf8.decode s pos).2=d:=⟨_,rfl⟩
   have hm:s.size-(pos+d)<s.size-W.iterPos W3.heap.size:=by
    simp only[World.iterPos,hit];omega
   rw[hd] at hit2 hbw2 hlet hwd
   rw[hr] at hlet
   simp only[hr,hd] at hnx
   obtain⟨W4,hW4⟩:∃W4,W.iterAt W3.heap.size s (pos+d)=W4:=⟨_,rfl⟩
   rw[hW4] at hit2 hbw2
   simp only[hW4] at hnx
   have cl:=fun W=>Wn r W
   clear hst hr hd hW4 hit hlt
   replace hit2:=Hd hit2
   replace hm:=Hd hm
   cases hlb:Eh r with
   |true=>
    rw[hlb] at cl hlet
    replace cl:=Hd cl
    replace hlet:=Hd hlet
    clear hlb
    go_wp2_with fail
    refine(cl.out _).mono ?_
    rintro e w5 ⟨rfl,hb5⟩
    have hit5:=Hd ((hb5.block _ (Array.getElem?_eq_some_iff.1 hit2.out).1).trans hit2.out)
    go_wp2
    refine⟨?_,by simp only[World.iterPos,hit5.out];exact hm.out⟩
    unfold nmRel
    exact⟨hbw2.trans (hb5.mono hbw2.size),pos+d,f,Ac rfl,hit5.out,by omega,by rw[<-hlet.out];rfl⟩
   |false=>
    rw[hlb] at cl hlet
    replace cl:=Hd cl
    have hno:=Hd (show Hf s=false by unfold Hf;rw[<-hlet];simp)
    clear hlb hlet
    go_wp2_with fail
    refine(cl.out _).mono ?_
    rintro e w5 ⟨rfl,hb5⟩
    go_wp2
    simp only[Exit.noGoto]
    go_ret
    exact⟨by rw[hno.out];rfl,hW.trans ((hbw2.trans (hb5.mono hbw2.size)).mono hW.size)⟩
  ·have hnx:∀ty,(Instr.next (.pointer (some ⟨W3.heap.size,0,none⟩)) true ty).run Tryz.prog W=_:=fun ty=>Lib.run_next_end_at W W3.heap.size s pos ty hit hp
   have hall:=Hd (show Hf s=ok by
    unfold Hf
    rw[<-hlet,ho.out]
    cases f with
    |zero=>simp[C3]
    |succ f=>simp[C3,hp])
   clear hlet
   go_wp2
   simp only[Exit.noGoto]
   go_ret
   exact⟨by rw[hall.out];rfl,hW.trans (hW0.mono hW.size)⟩
theorem c_srNums (nm:ByteArray) (ep fl la sc:Int) (ps po:Option Addr) (ns cs no co:Nat) (w:World):
  Cb 52 #[.agg #[.string nm,ep,fl,la,sc,.slice ps ns cs,.slice po no co]] w (.bool (Hf nm&&btw ep 0 1099511627776&&btw sc (-40) 40&&btw fl 0 281474976710656&&btw la (-1) 281474976710656)):=by
 go_enter Tryz.func52,Tryz.ntmps52
 go_upto_region 1 with(fail)
 refine Ad w (Bc w.heap.size #[.string nm,ep,fl,la,sc,.slice ps ns cs,.slice po no co] 25<|Bz) ?_
 rintro W1 hW z2 hL
 refine B3 24 26 hW hL ?_
 iterate 2 refine dA ?_
 refine cA (fun W' hC=>c_recName nm W') ?_
 refine dA ?_
 iterate 2 refine gA ?_
 refine cG (fun hp hx W' hC=>N8 ep 0 1099511627776 W') ?_
 refine pA ?_
 refine dA ?_
 iterate 2 refine gA ?_
 refine cG (fun hp hx W' hC=>c_srScl sc W') ?_
 refine pA ?_
 refine dA ?_
 iterate 2 refine gA ?_
 refine cG (fun hp hx W' hC=>N8 fl 0 281474976710656 W') ?_
 refine pA ?_
 refine dA ?_
 iterate 2 refine gA ?_
 refine cG (fun hp hx W' hC=>N8 la (-1) 281474976710656 W') ?_
 refine pA ?_
 refine dA ?_
 clear hW hL
 rintro W3 hW z4 hL
 simp only[ndR]
 intros
 repeat (rename Ao _ _ _ _=>hgd;clear hgd)
 simp only[ndS]
 refine wpList_nil ?_
 obtain⟨⟨b1,yb1,k1,f1⟩,-⟩:=hL
 go_wp2
 refine bodyPost_ret (by simp[results,Tryz.results52,go_sem,k1,f1,yb1]) rfl ⟨rfl,by exact Aa⟩
theorem scheck_no (K A R n d E:Int) (p q:Option Addr) (len cap m vc:Nat) (w:World)
  (c1:∀W,Below w.heap.size w W->Cb 150 #[.agg #[K,.slice p len cap,A,R,n,d,.slice q m vc,E]] W (.bool false)):
  Cb 110 #[.agg #[K,.slice p len cap,A,R,n,d,.slice q m vc,E]] w (.int .i64 210):=by
 have H_c1:=Hd c1
 clear c1
 go_enter Tryz.func110,Tryz.ntmps110
 go_upto_region 1 with(fail)
 refine Ad w (Bc w.heap.size #[K,.slice p len cap,A,R,n,d,.slice q m vc,E] 98<|Bz) ?_
 rintro W1 hW z2 ⟨⟨b1,yb1,k1,f1⟩,-⟩
 go_wp2_with fail
 refine(H_c1.out _ (Aa)).mono ?_
 rintro e w3 ⟨rfl,hb3⟩
 have z4:=hb3.size
 try simp at z4
 clear k1 f1
 refine Ae w w3 (Bc w.heap.size #[K,.slice p len cap,A,R,n,d,.slice q m vc,E] 98<|Bz) ?_
 clear b1 hW
 rintro hW z5 ⟨⟨b1,yb1,k1,f1⟩,-⟩
 clear hb3
 go_wp2
 refine bodyPost_ret (by simp[results,Tryz.results110,go_sem,k1,f1,yb1]) rfl ⟨rfl,by exact Aa⟩
theorem X3 (K A R n d E:Int) (p q:Option Addr) (len cap m vc:Nat) (w:World)
  (c1:∀W,Below w.heap.size w W->Cb 150 #[.agg #[K,.slice p len cap,A,R,n,d,.slice q m vc,E]] W (.bool true)):
  Cb 110 #[.agg #[K,.slice p len cap,A,R,n,d,.slice q m vc,E]] w (.int .i64 0):=by
 have H_c1:=Hd c1
 clear c1
 go_enter Tryz.func110,Tryz.ntmps110
 go_upto_region 1 with(fail)
 refine Ad w (Bc w.heap.size #[K,.slice p len cap,A,R,n,d,.slice q m vc,E] 98<|Bz) ?_
 rintro W1 hW z2 ⟨⟨b1,yb1,k1,f1⟩,-⟩
 go_wp2_with fail
 refine(H_c1.out _ (Aa)).mono ?_
 rintro e w3 ⟨rfl,hb3⟩
 have z4:=hb3.size
 try simp at z4
 clear k1 f1
 refine Ae w w3 (Bc w.heap.size #[K,.slice p len cap,A,R,n,d,.slice q m vc,E] 98<|Bz) ?_
 clear b1 hW
 rintro hW z5 ⟨⟨b1,yb1,k1,f1⟩,-⟩
 clear hb3
 go_wp2
 refine bodyPost_ret (by simp[results,Tryz.results110,go_sem,k1,f1,yb1]) rfl ⟨rfl,by exact Aa⟩
theorem Rs (s:A4) (p q:Option Addr) (cap vc:Nat) (w:World) (h:C7 w s p q) (hs:C1 s=true):
  Cb 110 #[.agg (Dh s p q cap vc)] w (.int .i64 0):=
 X3 _ _ _ _ _ _ p q _ cap _ vc w (fun W hW=>by have:=P7 s p q cap vc W (h.below hW);rw[hs] at this;exact this)
theorem Uj (s:A4) (p q:Option Addr) (cap vc:Nat) (w:World) (h:C7 w s p q) (hs:C1 s=false):
  Cb 110 #[.agg (Dh s p q cap vc)] w (.int .i64 210):=
 scheck_no _ _ _ _ _ _ p q _ cap _ vc w (fun W hW=>by have:=P7 s p q cap vc W (h.below hW);rw[hs] at this;exact this)
end Go.Proofs.YtidfcoooccblaaaGreat
namespace Go.Proofs.YtidfcoooccblaaaGreat
open Go.RowKit Go.Shelf
attribute [local go_sem] Oper.semAt_some
def okZ (z:(Int×Int)×(Int×Int)):Bool:=(z.2.1==z.1.1)&&A6 z.2.2
def farStep (f:Int) (z:(Int×Int)×(Int×Int)):Int:=mx (mx f (wrap64 (z.2.2-z.1.2))) (wrap64 (z.1.2-z.2.2))
def farOf (l:List ((Int×Int)×(Int×Int))):Int:=l.foldl farStep 0
structure KF (B0 n₀:Nat) (A B:World):Prop where
 below:Below B0 A B
 rest:∀(b:Nat) (cs:Array Value) (t:TypeId) (f:Nat×Nat),n₀<=b->A.heap[b]? =some (.cells cs t f)->B.heap[b]? =some (.cells cs t f)
theorem KF.refl (B0 n₀:Nat) (A:World):KF B0 n₀ A A:=⟨Below.refl _ _,fun _ _ _ _ _ h=>h⟩
theorem KF.trans {B0 n₀:Nat} {A B C:World} (h:KF B0 n₀ A B) (k:KF B0 n₀ B C):KF B0 n₀ A C:=⟨h.below.trans k.below,fun b cs t f hb ha=>k.rest b cs t f hb (h.rest b cs t f hb ha)⟩
theorem KF.alloc {B0 n₀:Nat} {A B:World} (h:KF B0 n₀ A B) (hB:B0<=B.heap.size) (o:Obj):KF B0 n₀ A (B.alloc o):=⟨h.below.alloc hB o,fun b cs t f hb ha=>(Below.heap_alloc B o b (Cv (h.rest b cs t f hb ha))).trans (h.rest b cs t f hb ha)⟩
theorem KF.set {B0 n₀:Nat} {A B:World} (h:KF B0 n₀ A B) {g i:Nat} (h1:B0<=g) (h2:g<n₀) (v:Value):KF B0 n₀ A (B.setCell ⟨g,i,none⟩ v):=⟨h.below.setCell (p:=⟨g,i,none⟩) h1 v,fun b cs t f hb ha=>(Below.heap_setCell B ⟨g,i,none⟩ v b (by simp;omega)).trans (h.rest b cs t f hb ha)⟩
theorem KF.calls {B0 n₀:Nat} {A B C:World} (h:KF B0 n₀ A B) (hb:Below B.heap.size B C) (hB:B0<=B.heap.size):KF B0 n₀ A C:=⟨h.below.trans (hb.mono hB),fun b cs t f hn ha=>(hb.block b (Cv (h.rest b cs t f hn ha))).trans (h.rest b cs t f hn ha)⟩
theorem KF.putObj {B0 n₀:Nat} {w:World} (hB:B0<=w.heap.size) (W:World) (l:Nat) (o o':Obj) (hl:w.heap.size<=l) (h:W.heap[l]? =some o) (h1:o.isCells=false) (h2:o.isWalk=false):KF B0 n₀ W (W.putObj l o'):=
 ⟨belowK_b hB W l o o' hl h h1 h2,fun b cs t f _ ha=>Je o' h h1 b cs f ha⟩
theorem KeepsOthers.calls {A B C:World} (h:KeepsOthers A B) (hb:Below B.heap.size B C):KeepsOthers A C:=⟨Nat.le_trans h.size hb.size,fun k o hk ho=>by
 have e:=h.same k o hk ho
 exact(hb.block k (Cv (e))).trans e⟩
def farR (s:A4) (pts:List (Int×Int)):Int×Int:=if pts.length=(Dr s).length then (if ((Dr s).zip pts).all okZ then (farOf ((Dr s).zip pts),0) else (0,2)) else (0,2)
def FarOut (s:A4) (pts:List (Int×Int)) (w:World) (e:Ending) (w':World):Prop:=e= .returned (.tuple #[.int .i64 (farR s pts).1,.int .i64 (farR s pts).2])/\Below w.heap.size w w'
theorem Er {A B:World} (h:KeepsOthers A B:=by repeat (first|with_reducible (exact KeepsOthers.refl _)|with_reducible (refine KeepsOthers.trans ?_ (KeepsOthers.setCell _ _ _))|with_reducible (refine KeepsOthers.trans ?_ (KeepsOthers.alloc _ _))|with_reducible (refine KeepsOthers.calls ?_ (by assumption)))):KeepsOthers A B:=h
theorem kfAny {B0 n₀:Nat} {A B:World} (h:KF B0 n₀ A B:=by repeat (first|with_reducible (exact KF.refl _ _ _)|with_reducible (refine KF.set ?_ (by omega) (by omega) _)|with_reducible (refine KF.alloc ?_ (by omega) _)|with_reducible (refine KF.calls ?_ (by assumption) (by first|omega|(simp;omega))))):KF B0 n₀ A B:=h
end Go.Proofs.YtidfcoooccblaaaGreat
