/- Parts of the proof that follows. No condition. -/
import Derived.Laws.AppendOwnNone
import Derived.Lib.OthersKept
import Derived.Lib.RuneBytes
import Derived.Test.YtidfcoooccblaaaGreatBro6
set_option maxRecDepth 100000
set_option maxHeartbeats 8000000
set_option linter.unusedSimpArgs false
set_option linter.unusedVariables false
namespace Go.Proofs.YtidfcoooccblaaaGreat
open Go.RowKit Go.Shelf
theorem ownsRow_le {W:World} {b b':Nat} {e:TypeId} {s:Nat} {v:Value} {k:Nat} {xs:List Value} (h:W.ownsRow b e s v k xs) (hb:b'<=b):W.ownsRow b' e s v k xs:=by
 obtain⟨h1,h2|⟨g,cap,cur,e1,hg,r⟩⟩:=h
 ·exact⟨h1,.inl h2⟩
 ·exact⟨h1,.inr ⟨g,cap,cur,e1,Nat.le_trans hb hg,r⟩⟩
theorem keepsT_putObj {T:TypeId} {W:World} {l:Nat} {o:Obj} (o':Obj) (hl:W.heap[l]? =some o) (ho:o.isCells=false):KeepsT T W (W.putObj l o'):=by
 intro b cs f hb
 rw[World.putObj_heap_other]
 ·exact hb
 ·rintro rfl
  rw[hb] at hl
  cases hl
  cases ho
theorem keepsT_of_below {T:TypeId} {A B:World} (h:Below A.heap.size A B):KeepsT T A B:=fun b cs f hb=>(h.block b (lt_of_heap hb)).trans hb
theorem collectI (gf:Nat) (lb:Array Value) (xs:List Int) (hlen:xs.length<=1000000) (w w0:World) (hw0:Below w0.heap.size w0 w) (Kp:World->World->Prop) (enters:∀args w,(callFunc gf args).run Tryz.prog w= .ok (.enter gf args) w)
  (hKp:∀ {A B},Below w.heap.size A B->(∀T,T≠96->T≠2->KeepsT T A B)->Kp A B) (hKt:∀ {A B C},Kp A B->Kp B C->Kp A C) (hKb:∀(W:World) (l:Nat) (o o':Obj),w.heap.size<=l->W.heap[l]? =some o->o.isCells=false->o.isWalk=false->Kp W (W.putObj l o'))
  (hseq:SeqStopsK Fence.wide 2 Tryz.prog gf lb (fun x:Int=> #[Value.int .i64 x]) Kp (fun ys=>ys=xs) (fun pre=>pre<+:xs) xs.length w0):
  Calls Tryz.prog 162 #[.func (.func gf) #[] lb] w fun e W'=>∃v,e= .returned v/\W'.ownsRow w.heap.size 2 1 v xs.length (xs.map (Value.int .i64))/\Below w.heap.size w W':=by
 have c1:=Hd (callsIn_wide.1 (appendSeqI gf lb xs hlen w w0 hw0 Kp enters hKp hKt hKb hseq))
 clear hKp hKt hKb hseq enters hw0
 go_enter Tryz.func162,Tryz.ntmps162
 go_wp2_with fail
 refine c1.out.mono ?_
 rintro e w1 ⟨v,rfl,hv,hB⟩
 replace hv:=Hd hv
 replace hB:=Hd hB
 go_wp2
 go_ret
 exact⟨v,rfl,hv.out,hB.out⟩
theorem all_w (p:Option Addr) (len cap:Nat) (w:World):Calls Tryz.prog 163 #[.slice p len cap] w fun e w'=>e= .returned (.func (.func 191) #[] #[.pointer (some ⟨w.heap.size,0,none⟩)])/\w'=w.alloc (.cells #[.slice p len cap] 93):=by
 have hmf:∀(fn:Fn) (first cap:Array Value) (w:World),(Instr.makeFunc fn first cap).run Tryz.prog w= .ok (.func fn first cap) w:=fun _ _ _ _=>rfl
 go_enter Tryz.func163,Tryz.ntmps163
 go_wp2
 go_ret
 exact⟨rfl,rfl⟩
def TimesOut (w:World) (l:List RunT) (e:Ending) (w':World):Prop:=∃v,e= .returned (.tuple #[v,.int .i64 0])/\w'.ownsRow w.heap.size 2 1 v (timesL l).length ((timesL l).map (Value.int .i64))/\Below w.heap.size w w'
theorem collect_times (p:Option Addr) (cap:Nat) (l:List RunT) (w:World) (Bs:Nat) (hl:RunsOk l) (h:RunsIn w p l) (hBs:Blk w Bs #[.slice p l.length cap] 93):
  Calls Tryz.prog 162 #[.func (.func 191) #[] #[.pointer (some ⟨Bs,0,none⟩)]] w fun e W'=>∃v,e= .returned v/\W'.ownsRow w.heap.size 2 1 v (timesL l).length ((timesL l).map (Value.int .i64))/\Below w.heap.size w W':=by
 have hlt:∀a,p=some a->a.block<w.heap.size:=by
  rintro a rfl
  have:=hl.some'
  obtain⟨b,o,e,k0,_⟩:=h.at' 0 (l[0]'(by omega)) (List.getElem?_eq_getElem (by omega))
  cases e
  exact cell_lt k0
 have hcnt:=hl.count
 have hlen:=length_times hl
 refine collectI 191 _ (timesL l) (by omega) w w (Below.refl _ _) (fun A B=>Below w.heap.size A B/\KeepsT 144 A B) (enters_of Tryz.func191 (by kernel_rfl) rfl)
  (fun hb hk=>⟨hb,hk _ (by decide) (by decide)⟩) (fun h k=>⟨h.1.trans k.1,h.2.trans k.2⟩) (fun W k o o' hk ho h1 h2=>⟨belowK_b (Nat.le_refl _) W k o o' hk ho h1 h2,keepsT_putObj o' ho h1⟩) ?_
 intro lr J Jx W hW hJ _ hY h0
 exact all1_in 2 (by omega) lr Bs w.heap.size p cap l hl.each (by have:=hl.few;omega) _ (fun h=>h) J Jx _ hJ hY W ((hBs.below hW).cell 0) (h.below hW) hlt hW.size h0
theorem c_Times (p:Option Addr) (cap:Nat) (l:List RunT) (w:World) (hl:RunsOk l) (h:RunsIn w p l):Calls Tryz.prog 114 #[.slice p l.length cap] w (TimesOut w l):=by
 have hlen:=hl.few
 have c1:=fun W (hW:Below w.heap.size w W)=>rises_w p cap l W (by omega) (h.below hW)
 rw[(risesB_iff l).2 hl] at c1
 have c2:=Hd (fun W Bs (hW:Below w.heap.size w W) (hb:Blk W Bs #[.slice p l.length cap] 93)=>collect_times p cap l W Bs hl (h.below hW) hb)
 have H_c1:=Hd c1
 clear c1
 go_enter Tryz.func114,Tryz.ntmps114
 have c1:=H_c1.out
 go_wp2_with fail
 refine(c1 _ (belowAny)).mono ?_
 rintro e w1 ⟨rfl,hb1⟩
 clear c1
 have z1:=hb1.size
 go_wp2_with fail
 refine(all_w _ _ _ _).mono ?_
 rintro e w2 ⟨rfl,rfl⟩
 go_wp2_with fail
 refine(c2.out _ _ (belowAny) (Blk.new' rfl)).mono ?_
 rintro e w3 ⟨v,rfl,hv,hB⟩
 replace hv:=Hd hv
 have hBB:Hid (Below w.heap.size w w3):=Hd (belowAny)
 clear hB
 go_wp2
 refine bodyPost_ret (v:= .tuple #[v,.int .i64 0]) (by simp[results,Tryz.results114,go_sem]) rfl ⟨v,rfl,ownsRow_le hv.out (by simp;omega),hBB.out⟩
attribute [local go_sem] Oper.semAt_some
def ptsL (s:SegT):List (Int×Int):=(timesL s.runs).zip (vals s)
theorem length_pts {s:SegT} (hs:segB s=true):((ptsL s).length:Int)=cnt s.runs:=by
 have h1:=length_times (segB_runs hs)
 have h2:=length_vals hs
 unfold ptsL
 simp
 omega
theorem abides_below {β:Type} {B:Nat} {J:β->World->Prop} (hJ:AbidesFrom B J) {s:β} {A C:World} (h:J s A) (hb:Below A.heap.size A C):J s C:=
 hJ s A C none h ⟨hb.os,hb.tape,hb.output,hb.size,fun i hi _=>hb.block i hi⟩ (fun r e=>by cases e)
structure KeepsPts (s:SegT) (p q:Option Addr) (cap vc Bs n₀:Nat) (A B:World):Prop where
 size:A.heap.size<=B.heap.size
 seg:SegIn A s p q->SegIn B s p q
 box:Blk A Bs (segA s p q cap vc) 179->Blk B Bs (segA s p q cap vc) 179
 nums:∀(b:Nat) (cs:Array Value),n₀<=b->Blk A b cs 2->Blk B b cs 2
def flatPts (l:List (Int×Int)):List Value:=l.flatMap fun x=> [.int .i64 x.1,.int .i64 x.2]
theorem flatPts_snoc (l:List (Int×Int)) (x:Int×Int):flatPts (l++ [x])=flatPts l++ [.int .i64 x.1,.int .i64 x.2]:=by simp[flatPts]
theorem Tryz.infoPoint :(Tryz.prog.info? 91).map (fun i=>(i.zero,i.size,i.bytes))=some (some (.agg #[.int .i64 0,.int .i64 0]),2,16):=by kernel_rfl
theorem cell_two_new (W:World) (a b:Value) (t:TypeId) (j:Nat) (u:Value) (h: [a,b][j]? =some u):(W.alloc (.cells #[a,b] t)).cell? ((⟨W.heap.size,0,none⟩:Addr).add j)=some u:=by
 have hb:Blk (W.alloc (.cells #[a,b] t)) W.heap.size #[a,b] t:=Blk.new' rfl
 have hadd:(⟨W.heap.size,0,none⟩:Addr).add j=⟨W.heap.size,j,none⟩:=by unfold Addr.add;split<;>simp_all
 rw[hadd,hb.cell]
 simpa using h
theorem blk_own {β:Type} (B:Nat) (t:TypeId) (f:β->Array Value):Own (fun s W=>Blk W B (f s) t):=fun s X Y row hs hg hrow=>by
 refine(hg.block B hs.lt fun e=> ?_).trans hs
 obtain⟨o,ho,hc⟩:=hrow B e.symm
 rw[show X.heap[B]? =_ from hs] at ho;cases ho;cases hc
theorem RunsIn.keep {w A B:World} {p:Option Addr} {l:List RunT} (h:RunsIn w p l) (hb:Below w.heap.size A B) (ha:RunsIn A p l):RunsIn B p l:=⟨fun i r hr=>by
 obtain⟨b,o,e,k0,k1,k2⟩:=ha.at' i r hr
 obtain⟨b',o',e',q0,_⟩:=h.at' i r hr
 rw[e] at e'
 injection e' with e'
 injection e' with e1 e2
 subst e1
 have hlt:=cell_lt q0
 exact⟨b,o,e,(hb.cell (p:=⟨b,_,none⟩) hlt).trans k0,(hb.cell (p:=⟨b,_,none⟩) hlt).trans k1,(hb.cell (p:=⟨b,_,none⟩) hlt).trans k2⟩⟩
theorem IntsIn.keep {w A B:World} {p:Option Addr} {l:List Int} (h:IntsIn w p l) (hb:Below w.heap.size A B) (ha:IntsIn A p l):IntsIn B p l:=⟨fun i r hr=>by
 obtain⟨b,o,e,k0⟩:=ha.at' i r hr
 obtain⟨b',o',e',q0⟩:=h.at' i r hr
 rw[e] at e'
 injection e' with e'
 injection e' with e1 e2
 subst e1
 exact⟨b,o,e,(hb.cell (p:=⟨b,_,none⟩) (cell_lt q0)).trans k0⟩⟩
theorem SegIn.keep {w A B:World} {s:SegT} {p q:Option Addr} (h:SegIn w s p q) (hb:Below w.heap.size A B) (ha:SegIn A s p q):SegIn B s p q:=⟨h.runs.keep hb ha.runs,h.raw.keep hb ha.raw,h.fewR,h.fewV⟩
def PtsIs (s:SegT) (B:Nat) (v:Value) (w:World):Prop:=w.ownsRow B 91 2 v (ptsL s).length (flatPts (ptsL s))
end Go.Proofs.YtidfcoooccblaaaGreat
namespace Go.Proofs.YtidfcoooccblaaaGreat
open Go.RowKit

structure PtsIn (w:World) (p:Option Addr) (l:List (Int×Int)):Prop where
 at':∀(i:Nat) (x:Int×Int),l[i]? =some x->∃b o,p=some ⟨b,o,none⟩/\w.cell? ⟨b,o+i*2,none⟩=some (x.1)/\w.cell? ⟨b,o+i*2+1,none⟩=some (x.2)
theorem PtsIn.below {w w':World} {p:Option Addr} {l:List (Int×Int)} (h:PtsIn w p l) (hb:Below w.heap.size w w'):PtsIn w' p l:=⟨fun i r hr=>by
 obtain⟨b,o,e,h1,h2⟩:=h.at' i r hr
 exact⟨b,o,e,(hb.cell (p:=⟨b,_,none⟩) (cell_lt h1)).trans h1,(hb.cell (p:=⟨b,_,none⟩) (cell_lt h1)).trans h2⟩⟩
theorem PtsIn.alloc {w:World} {p:Option Addr} {l:List (Int×Int)} (h:PtsIn w p l) (o:Obj):PtsIn (w.alloc o) p l:=h.below ((Below.refl _ _).alloc (Nat.le_refl _) o)
theorem PtsIn.calls {w w':World} {p:Option Addr} {l:List (Int×Int)} (h:PtsIn w p l) (hb:Below w.heap.size w w'):PtsIn w' p l:=h.below hb
theorem PtsIn.set' {w:World} {p:Option Addr} {o i:Nat} {v:Value} {l:List (Int×Int)} (h:PtsIn w p l) (hne:∀a,p=some a->a.block≠o):PtsIn (w.setCell ⟨o,i,none⟩ v) p l:=⟨fun k r hr=>by
 obtain⟨b,y,e,h1,h2⟩:=h.at' k r hr
 have hc:∀z,(w.setCell ⟨o,i,none⟩ v).cell? ⟨b,z,none⟩=w.cell? ⟨b,z,none⟩:=by
  intro z
  have:=heap_setCell_other w ⟨o,i,none⟩ b v (hne _ e)
  simp only[World.cell?,this]
 exact⟨b,y,e,(hc _).trans h1,(hc _).trans h2⟩⟩
theorem PtsIn.set {w:World} {g x o i:Nat} {v:Value} {l:List (Int×Int)} (h:PtsIn w (some ⟨g,x,none⟩) l) (hne:g≠o):PtsIn (w.setCell ⟨o,i,none⟩ v) (some ⟨g,x,none⟩) l:=h.set' fun a e=>by cases e;exact hne
theorem PtsIn.drew {w:World} {p:Option Addr} {l:List (Int×Int)} (h:PtsIn w p l):PtsIn w.drew p l:=⟨h.at'⟩
theorem PtsIn.rex {L:List Nat} {w w':World} {p:Option Addr} {l:List (Int×Int)} (h:PtsIn w p l) (hr:Rex L w w') (hL:L= []):PtsIn w' p l:=by subst hL;exact h.below hr.below
theorem flatPts_at :∀(l:List (Int×Int)) (i:Nat) (x:Int×Int),l[i]? =some x->(flatPts l)[i*2]? =some (x.1)/\(flatPts l)[i*2+1]? =some (x.2)
 | [],i,x,h=>by simp at h
 |y::l,0,x,h=>by
  simp at h
  subst h
  exact⟨rfl,rfl⟩
 |y::l,i+1,x,h=>by
  obtain⟨a,b⟩:=flatPts_at l i x (by simpa using h)
  have e:flatPts (y::l)= .int .i64 y.1:: .int .i64 y.2::flatPts l:=rfl
  rw[e,show (i+1)*2=i*2+1+1 by omega]
  exact⟨by simpa using a,by simpa using b⟩
theorem pts_in {w:World} {g n:Nat} {t:TypeId} {cur:Array Value} {l:List (Int×Int)} (hb:Blk w g cur t) (ht:cur.toList.take n=flatPts l):PtsIn w (some ⟨g,0,none⟩) l:=⟨fun i x hx=>by
 obtain⟨a,b⟩:=flatPts_at l i x hx
 refine⟨g,0,rfl,?_,?_⟩
 ·rw[hb.cell,Nat.zero_add];exact row_take ht a
 ·rw[hb.cell,Nat.zero_add];exact row_take ht b⟩
def selB (a b:Int) (x:Int×Int):Bool:=decide (a<=x.1)&&decide (x.1<=b)
def selL (a b:Int) (l:List (Int×Int)):List Int:=(l.filter (selB a b)).map (·.2)
theorem filter_range {α:Type} (pr:α->Bool):∀(l:List α) (i j:Nat),(∀k x,l[k]? =some x->(pr x=true↔i<=k/\k<j))->l.filter pr=(l.take j).drop i
 | [],i,j,_=>by simp
 |y::l,i,j,h=>by
  have h0:=h 0 y rfl
  cases j with
  |zero=>
   have ih:=filter_range pr l 0 0 (fun k x hx=>(h (k+1) x (by simpa using hx)).trans (by omega))
   have hp:pr y=false:=by
    cases hy:pr y with
    |false=>rfl
    |true=>have:=h0.1 hy;omega
   simp[List.filter_cons,hp]
   simpa using ih
  |succ j=>
   cases i with
   |zero=>
    have ih:=filter_range pr l 0 j (fun k x hx=>(h (k+1) x (by simpa using hx)).trans (by omega))
    have hp:pr y=true:=h0.2 ⟨Nat.le_refl _,by omega⟩
    simp[List.filter_cons,hp,ih]
   |succ i=>
    have ih:=filter_range pr l i j (fun k x hx=>(h (k+1) x (by simpa using hx)).trans (by omega))
    have hp:pr y=false:=by
     cases hy:pr y with
     |false=>rfl
     |true=>have:=h0.1 hy;omega
    simp[List.filter_cons,hp,ih]
theorem map_pts {s:SegT} (hs:segB s=true):(ptsL s).map (·.2)=vals s:=by
 have h1:=length_times (segB_runs hs)
 have h2:=length_vals hs
 unfold ptsL
 rw[List.map_snd_zip]
 omega
theorem pts_times {s:SegT} (hs:segB s=true) {k:Nat} {x:Int×Int} (h:(ptsL s)[k]? =some x):(timesL s.runs)[k]? =some x.1/\(vals s)[k]? =some x.2:=by
 unfold ptsL at h
 rw[List.getElem?_zip_eq_some] at h
 exact h
theorem sel_slice {s:SegT} (hs:segB s=true) (a b:Int):selL a b (ptsL s)=if clipI s.runs a<clipJ s.runs a b then slice (vals s) (clipI s.runs a).toNat (clipJ s.runs a b).toNat else []:=by
 have hl:=segB_runs hs
 obtain⟨i0,i1,i2⟩:=below_is s.runs a hl.each hl.chain
 obtain⟨j0,j1,j2⟩:=below_is s.runs (b+1) hl.each hl.chain
 have hcb:=clip_bd hl a b
 have key:∀k x,(ptsL s)[k]? =some x->(selB a b x=true↔(clipI s.runs a).toNat<=k/\k<(clipJ s.runs a b).toNat):=by
  intro k x hx
  obtain⟨t1,_⟩:=pts_times hs hx
  have e1:=i2 k x.1 t1
  have e2:=j2 k x.1 t1
  have hk:(k:Int)<cnt s.runs:=by
   have:=length_times hl
   have:=(List.getElem?_eq_some_iff.1 t1).1
   omega
  have hm:=times_in s.runs hl x.1 (List.mem_of_getElem? t1)
  simp only[selB,Bool.and_eq_true,decide_eq_true_eq]
  unfold clipI clipJ
  split
  ·omega
  ·split<;>omega
 have:=filter_range (selB a b) (ptsL s) _ _ key
 unfold selL
 rw[this]
 split
 ·rw[List.map_drop,List.map_take,map_pts hs]
  rfl
 ·rw[List.drop_eq_nil_of_le (by simp;omega)]
  rfl
theorem partOut_sel {s:SegT} (hs:segB s=true) (a b:Int):partOut s a b=if selL a b (ptsL s)= [] then (#[.int .i64 0,.int .i64 0,.int .i64 0,.int .i64 0,.int .u64 0],9) else (partA (selL a b (ptsL s)),0):=by
 have hl:=segB_runs hs
 have hcb:=clip_bd hl a b
 have hlv:=length_vals hs
 rw[sel_slice hs a b]
 unfold partOut
 rw[if_pos hs]
 by_cases h:clipI s.runs a<clipJ s.runs a b
 ·rw[if_pos h,if_pos h,if_neg (slice_ne (by omega) (by omega))]
 ·rw[if_neg h,if_neg h,if_pos rfl]
structure SerT where
 name:ByteArray
 eps:Int
 floor:Int
 last:Int
 scale:Int
 segs:List SegT
 opn:List (Int×Int)
def letterB (r:Nat):Bool:=decide (97<=r/\r<=122)||decide (48<=r/\r<=57)
def lettersB (s:ByteArray):Nat->Nat->Bool
 |0,_=>true
 |f+1,pos=>if pos<s.size then letterB (Utf8.decode s pos).1&&lettersB s f (pos+(Utf8.decode s pos).2) else true
def nameB (s:ByteArray):Bool:=decide (1<=s.size/\s.size<=12)&&lettersB s s.size 0
def timesS (s:SerT):List Int:=s.segs.flatMap (fun x=>timesL x.runs)++s.opn.map (·.1)
def btw (n lo hi:Int):Bool:=decide (lo<=n)&&decide (n<=hi)
def numsB (s:SerT):Bool:=nameB s.name&&(btw s.eps 0 1099511627776&&(btw s.scale (-40) 40&&(btw s.floor 0 281474976710656&&btw s.last (-1) 281474976710656)))
def rowB:Int->List SegT->Bool
 |_,[]=>true
 |b,x::l=>segB x&&(decide (b<firstT x.runs)&&rowB (lastT x.runs) l)
def inSegB (eps floor:Int) (x:SegT):Bool:=decide (x.E<=eps)&&decide (floor<=lastT x.runs)
def inOpnB (floor:Int) (p:Int×Int):Bool:=btw p.1 floor 281474976710656&&btw p.2 (-2305843009213693952) 2305843009213693952
def riseB:Int->List Int->Bool
 |_,[]=>true
 |b,t::l=>decide (b<t)&&riseB t l
def lastOr:Int->List Int->Int
 |b,[]=>b
 |_,t::l=>lastOr t l
def keptN (s:SerT):Nat:=((timesS s).filter fun t=>decide (s.floor<=t)).length
def lastB (s:SerT):Bool:=decide (lastOr (-1) (timesS s)<0)||(s.last==lastOr (-1) (timesS s))
def checkB (s:SerT):Bool:=numsB s&&(rowB (-1) s.segs&&(decide (s.opn.length<32)&&(s.segs.all (inSegB s.eps s.floor)&&(s.opn.all (inOpnB s.floor)&&(riseB (-1) (timesS s)&&(lastB s&&decide (keptN s<=1024)))))))
def checkE (s:SerT):Int:=if checkB s=true then 0 else 340
theorem rowB_snoc :∀(l:List SegT) (b:Int) (x:SegT),rowB b (l++ [x])=(rowB b l&&(segB x&&decide ((l.getLast?.map fun y=>lastT y.runs).getD b<firstT x.runs)))
 | [],b,x=>by simp[rowB]<;>rfl
 |y::l,b,x=>by
  simp only[List.cons_append,rowB]
  rw[rowB_snoc l]
  cases l with
  |nil=>simp[Bool.and_assoc]<;>rfl
  |cons z l=>simp[Bool.and_assoc,List.getLast?_cons]<;>rfl
theorem rowB_seg :∀ {l:List SegT} {b:Int},rowB b l=true->∀x,x∈l->segB x=true
 | [],_,_,x,h=>by simp at h
 |y::l,b,hr,x,h=>by
  simp only[rowB,Bool.and_eq_true] at hr
  simp only[List.mem_cons] at h
  rcases h with rfl|h
  ·exact hr.1
  ·exact rowB_seg hr.2.2 x h
theorem riseB_snoc :∀(l:List Int) (b t:Int),riseB b (l++ [t])=(riseB b l&&decide (lastOr b l<t))
 | [],b,t=>by simp[riseB,lastOr]<;>rfl
 |y::l,b,t=>by simp only[List.cons_append,riseB,lastOr];rw[riseB_snoc l,Bool.and_assoc]<;>rfl
theorem lastOr_snoc :∀(l:List Int) (b t:Int),lastOr b (l++ [t])=t
 | [],_,_=>rfl
 |_::l,_,_=>by simp only[List.cons_append,lastOr];exact lastOr_snoc l _ _
theorem riseB_prefix {pre l:List Int} (h:pre<+:l) (b:Int) (hf:riseB b pre=false):riseB b l=false:=by
 obtain⟨t,rfl⟩:=h
 induction pre generalizing b with
 |nil=>simp[riseB] at hf
 |cons y l ih=>
  simp only[List.cons_append,riseB] at hf⊢
  cases hd:decide (b<y) with
  |false=>rfl
  |true=>rw[hd] at hf;simp only[Bool.true_and] at hf⊢;exact ih _ hf
def segBk (a b:Int) (x:SegT):List (Int×Int×Int):=((ptsL x).filter (selB a b)).map fun p=>(p.1,p.2,x.E)
def opnBk (a b:Int) (l:List (Int×Int)):List (Int×Int×Int):=(l.filter (selB a b)).map fun p=>(p.1,p.2,0)
def toldL (s:SerT) (a b:Int):List (Int×Int×Int):=s.segs.flatMap (segBk (mx a s.floor) b)++opnBk (mx a s.floor) b s.opn
def segPc (a b:Int) (x:SegT):List (List Int×Int):=if selL a b (ptsL x)= [] then [] else [(selL a b (ptsL x),x.E)]
def opnPc (a b:Int) (l:List (Int×Int)):List (List Int×Int):=(l.filter (selB a b)).map fun p=>([p.2],0)
def pcsL (s:SerT) (a b:Int):List (List Int×Int):=s.segs.flatMap (segPc (mx a s.floor) b)++opnPc (mx a s.floor) b s.opn
def pairs (g:List Int×Int):List (Int×Int):=g.1.map fun v=>(v,g.2)
theorem segPc_told (a b:Int) (x:SegT):(segPc a b x).flatMap pairs=(segBk a b x).map (·.2):=by
 unfold segPc segBk
 have e:(selL a b (ptsL x)).map (fun v=>(v,x.E))=(((ptsL x).filter (selB a b)).map fun p=>(p.1,p.2,x.E)).map (·.2):=by
  unfold selL
  simp[List.map_map,Function.comp_def]
 split
 ·rename_i h
  rw[<-e,h];rfl
 ·simp[pairs,<-e]
theorem opnPc_told (a b:Int) (l:List (Int×Int)):(opnPc a b l).flatMap pairs=(opnBk a b l).map (·.2):=by
 unfold opnPc opnBk
 induction l.filter (selB a b) with
 |nil=>rfl
 |cons x l ih=>simp only[List.map_cons,List.flatMap_cons,ih];rfl
theorem pcs_told (s:SerT) (a b:Int):(pcsL s a b).flatMap pairs=(toldL s a b).map (·.2):=by
 unfold pcsL toldL
 rw[List.flatMap_append,List.map_append,opnPc_told]
 congr 1
 induction s.segs with
 |nil=>rfl
 |cons x l ih=>simp only[List.flatMap_cons,List.flatMap_append,List.map_append,ih,segPc_told]
def loL (l:List (Int×Int)):List Int:=l.map fun x=>x.1-x.2
def hiL (l:List (Int×Int)):List Int:=l.map fun x=>x.1+x.2
def shA (l:List (Int×Int)):Array Value:= #[.int .i64 l.length,.int .i64 (minL (loL l)),.int .i64 (minL (hiL l)),.int .i64 (maxL (loL l)),.int .i64 (maxL (hiL l)),.int .i64 (hiW (lsum (loL l))),.int .u64 (loW (lsum (loL l))),.int .i64 (hiW (lsum (hiL l))),.int .u64 (loW (lsum (hiL l)))]
def wholeL (s:SerT) (a b:Int):List (Int×Int):=(toldL s a b).map (·.2)
def wholeE (s:SerT) (a b:Int):Int:=if checkB s=true then (if toldL s a b= [] then 9 else 0) else 340
def wholeV (s:SerT) (a b:Int):List (Int×Int):=if checkB s=true then wholeL s a b else []
theorem minL_shift (l:List Int) (d:Int) (h:l≠ []):minL (l.map fun v=>v+d)=minL l+d:=by
 obtain⟨a,b⟩:=minL_is h
 refine minL_eq (List.mem_map.2 ⟨_,a,rfl⟩) fun v hv=> ?_
 obtain⟨u,hu,rfl⟩:=List.mem_map.1 hv
 have:=b u hu
 omega
theorem maxL_shift (l:List Int) (d:Int) (h:l≠ []):maxL (l.map fun v=>v+d)=maxL l+d:=by
 obtain⟨a,b⟩:=maxL_is h
 refine maxL_eq (List.mem_map.2 ⟨_,a,rfl⟩) fun v hv=> ?_
 obtain⟨u,hu,rfl⟩:=List.mem_map.1 hv
 have:=b u hu
 omega
theorem lsum_shift (l:List Int) (d:Int):lsum (l.map fun v=>v+d)=lsum l+d*l.length:=by
 induction l with
 |nil=>simp[lsum]
 |cons x l ih=>simp only[List.map_cons,lsum,ih,List.length_cons,Int.natCast_add,Int.mul_add];omega
theorem loL_pairs (g:List Int) (d:Int):loL (pairs (g,d))=g.map fun v=>v+ -d:=by unfold loL pairs;rw[List.map_map];congr 1
theorem hiL_pairs (g:List Int) (d:Int):hiL (pairs (g,d))=g.map fun v=>v+d:=by unfold hiL pairs;rw[List.map_map];congr 1
theorem loL_append (a b:List (Int×Int)):loL (a++b)=loL a++loL b:=by unfold loL;simp
theorem hiL_append (a b:List (Int×Int)):hiL (a++b)=hiL a++hiL b:=by unfold hiL;simp
theorem length_pairs (g:List Int) (d:Int):(pairs (g,d)).length=g.length:=by simp[pairs]
theorem loL_ne {l:List (Int×Int)} (h:l≠ []):loL l≠ []:=by unfold loL;simpa using h
theorem hiL_ne {l:List (Int×Int)} (h:l≠ []):hiL l≠ []:=by unfold hiL;simpa using h
theorem shA_first {g:List Int} (d:Int) (hg:g≠ []):shA ([]++pairs (g,d))= #[.int .i64 (0+g.length),.int .i64 (minL g-d),.int .i64 (minL g+d),.int .i64 (maxL g-d),.int .i64 (maxL g+d),.int .i64 (hiW (0+(lsum g-d*g.length))),.int .u64 (loW (0+(lsum g-d*g.length))),.int .i64 (hiW (0+(lsum g+d*g.length))),.int .u64 (loW (0+(lsum g+d*g.length)))]:=by
 unfold shA
 rw[List.nil_append,loL_pairs,hiL_pairs,minL_shift _ _ hg,minL_shift _ _ hg,maxL_shift _ _ hg,maxL_shift _ _ hg,lsum_shift,lsum_shift,length_pairs,Int.neg_mul]
 simp only[Int.zero_add,Int.sub_eq_add_neg]
theorem shA_more {l:List (Int×Int)} {g:List Int} (d:Int) (hl:l≠ []) (hg:g≠ []):shA (l++pairs (g,d))= #[.int .i64 (l.length+g.length),.int .i64 (min (minL (loL l)) (minL g-d)),.int .i64 (min (minL (hiL l)) (minL g+d)),.int .i64 (max (maxL (loL l)) (maxL g-d)),.int .i64 (max (maxL (hiL l)) (maxL g+d)),.int .i64 (hiW (lsum (loL l)+(lsum g-d*g.length))),.int .u64 (loW (lsum (loL l)+(lsum g-d*g.length))),.int .i64 (hiW (lsum (hiL l)+(lsum g+d*g.length))),.int .u64 (loW (lsum (hiL l)+(lsum g+d*g.length)))]:=by
 have h1:∀d,(g.map fun v=>v+d)≠ []:=fun d=>by simpa using hg
 unfold shA
 rw[loL_append,hiL_append,loL_pairs,hiL_pairs,minL_append (loL_ne hl) (h1 _),minL_append (hiL_ne hl) (h1 _),maxL_append (loL_ne hl) (h1 _),maxL_append (hiL_ne hl) (h1 _),lsum_append,lsum_append,minL_shift _ _ hg,minL_shift _ _ hg,maxL_shift _ _ hg,maxL_shift _ _ hg,lsum_shift,lsum_shift,List.length_append,length_pairs,Int.neg_mul,Int.natCast_add]
 simp only[Int.sub_eq_add_neg]
def l0:List RunT:= [⟨10,2,4⟩]
def s0:SegT:=⟨2,l0,5,0,1,2,[],3⟩
theorem ints_nil (w:World) (q:Option Addr):IntsIn w q []:=⟨fun i x h=>by simp at h⟩

def TyP (w:World) (p:Option Addr) (T:TypeId):Prop:=∀a,p=some a->∃cur fz,w.heap[a.block]? =some (.cells cur T fz)
theorem TyP.below {w w':World} {p:Option Addr} {T:TypeId} (h:TyP w p T) (hb:Below w.heap.size w w'):TyP w' p T:=fun a e=>by
 obtain⟨cur,fz,hh⟩:=h a e
 exact⟨cur,fz,(hb.block a.block (Array.getElem?_eq_some_iff.1 hh).1).trans hh⟩
theorem TyP.alloc {w:World} {p:Option Addr} {T:TypeId} (h:TyP w p T) (o:Obj):TyP (w.alloc o) p T:=h.below ((Below.refl _ _).alloc (Nat.le_refl _) o)
theorem TyP.setCell {w:World} {p:Option Addr} {T:TypeId} (h:TyP w p T) (a:Addr) (v:Value):TyP (w.setCell a v) p T:=fun b e=>by
 obtain⟨cur,fz,hh⟩:=h b e
 by_cases hb:b.block=a.block
 ·refine⟨if a.spot.isSome then cur else cur.setIfInBounds a.off v,fz,?_⟩
  simp only[World.setCell,Array.getElem?_modify]
  rw[if_pos hb.symm,hh];rfl
 ·exact⟨cur,fz,(heap_setCell_other w a b.block v hb).trans hh⟩
theorem TyP.new {w:World} {cs:Array Value} {T:TypeId} {g:Nat} (h:w.heap.size=g):TyP (w.alloc (.cells cs T)) (some ⟨g,0,none⟩) T:=fun a e=>by
 subst h
 cases e
 exact⟨cs,(0,0),heap_alloc_new w _⟩
theorem RunsIn.take {w:World} {p:Option Addr} {l:List RunT} (h:RunsIn w p l) (k:Nat):RunsIn w p (l.take k):=⟨fun i r hr=>h.at' i r (by
 rw[List.getElem?_take] at hr
 split at hr
 ·exact hr
 ·cases hr)⟩
theorem IntsIn.take {w:World} {p:Option Addr} {l:List Int} (h:IntsIn w p l) (k:Nat):IntsIn w p (l.take k):=⟨fun i r hr=>h.at' i r (by
 rw[List.getElem?_take] at hr
 split at hr
 ·exact hr
 ·cases hr)⟩
structure Came (w:World) (s:SegT) (p q:Option Addr) (cap vc:Nat):Prop where
 runs:RunsIn w p s.runs
 raw:IntsIn w q s.raw
 nilR:p=none->s.runs= []/\cap=0
 nilV:q=none->s.raw= []/\vc=0
 capR:s.runs.length<=cap
 capV:s.raw.length<=vc
 maxR:s.runs.length<=9223372036854775807
 maxV:s.raw.length<=9223372036854775807
def ownS (s:SegT):SegT:=⟨s.K,s.runs.take 300,s.A,s.R,s.n,s.d,s.raw.take 300,s.E⟩
def OwnOut (s:SegT) (w:World) (e:Ending) (w':World):Prop:=∃p' cap' q' vc',e= .returned (.agg (segA (ownS s) p' q' cap' vc'))/\Below w.heap.size w w'/\SegIn w' (ownS s) p' q'/\(ownS s).raw.length<=vc'
def OwnOutT (s:SegT) (w:World) (e:Ending) (w':World):Prop:=∃p' cap' q' vc',e= .returned (.agg (segA (ownS s) p' q' cap' vc'))/\Below w.heap.size w w'/\SegIn w' (ownS s) p' q'/\(ownS s).raw.length<=vc'/\TyP w' p' 144/\TyP w' q' 2
structure SegP (w:World) (s:SegT) (p q:Option Addr):Prop where
 seg:SegIn w s p q
theorem SegP.below {w w':World} {s:SegT} {p q:Option Addr} (h:SegP w s p q) (hb:Below w.heap.size w w'):SegP w' s p q:=⟨h.seg.below hb⟩
theorem SegP.alloc {w:World} {s:SegT} {p q:Option Addr} (h:SegP w s p q) (o:Obj):SegP (w.alloc o) s p q:=h.below ((Below.refl _ _).alloc (Nat.le_refl _) o)
theorem SegP.rex {L:List Nat} {w w':World} {s:SegT} {p q:Option Addr} (h:SegP w s p q) (hr:Rex L w w') (hL:L= []):SegP w' s p q:=by subst hL;exact h.below hr.below
theorem SegP.drew {w:World} {s:SegT} {p q:Option Addr} (h:SegP w s p q):SegP w.drew s p q:=⟨⟨⟨h.seg.runs.at'⟩,⟨h.seg.raw.at'⟩,h.seg.fewR,h.seg.fewV⟩⟩
structure PtsP (w:World) (b o:Nat) (l:List (Int×Int)):Prop where
 pts:PtsIn w (some ⟨b,o,none⟩) l
theorem PtsP.below {w w':World} {b o:Nat} {l:List (Int×Int)} (h:PtsP w b o l) (hb:Below w.heap.size w w'):PtsP w' b o l:=⟨h.pts.below hb⟩
theorem PtsP.rex {L:List Nat} {w w':World} {b o:Nat} {l:List (Int×Int)} (h:PtsP w b o l) (hr:Rex L w w') (hL:L= []):PtsP w' b o l:=by subst hL;exact h.below hr.below
theorem PtsP.drew {w:World} {b o:Nat} {l:List (Int×Int)} (h:PtsP w b o l):PtsP w.drew b o l:=⟨⟨h.pts.at'⟩⟩
theorem PtsP.cellAt {w:World} {b o:Nat} {l:List (Int×Int)} (h:PtsP w b o l) {i:Nat} {x:Int×Int} (hx:l[i]? =some x):w.cell? ⟨b,o+i*2,none⟩=some (x.1)/\w.cell? ⟨b,o+i*2+1,none⟩=some (x.2):=by
 obtain⟨b',o',e,h1,h2⟩:=h.pts.at' i x hx
 cases e
 exact⟨h1,h2⟩
def spE (a b:Int):Int:=if a<=b then 0 else 140
def spsE (l:List (Int×Int)):Int:=if l.all (fun x=>decide (x.1<=x.2))=true then 0 else 140
theorem c_spCheck (a b:Int) (w:World):Cb 96 #[.agg #[a,b]] w (.int .i64 (spE a b)):=by
 unfold spE
 by_cases h:a<=b
 ·rw[if_pos h]
  go_enter Tryz.func96,Tryz.ntmps96
  go_wp2
  go_ret
  exact⟨rfl,belowAny⟩
 ·rw[if_neg h]
  have h':b<a:=by omega
  go_enter Tryz.func96,Tryz.ntmps96
  go_wp2
  go_ret
  exact⟨rfl,belowAny⟩
def spcRel (w:World) (p:Option Addr) (cap:Nat) (l:List (Int×Int)) (a':Act) (W:World):Prop:=
 Below w.heap.size w W/\∃i:Nat,(∃u:Nat->Value,a'= {tmps:= #[.slice p l.length cap,u 1,u 2,u 3,u 4,u 5,.slice p l.length cap,.int .i64 (l.length:Int),.int .i64 (i:Int),u 9,u 10,u 11,u 12,u 13,u 14,u 15,u 16,u 17],defers:= []})/\i<=l.length/\∀k x,k<i->l[k]? =some x->x.1<=x.2
theorem c_spChecked (p:Option Addr) (cap:Nat) (l:List (Int×Int)) (w:World) (hlen:l.length<=1000000) (h:PtsIn w p l):
  Cb 92 #[.slice p l.length cap] w (.int .i64 (spsE l)):=by
 go_enter Tryz.func92,Tryz.ntmps92
 go_wp2
 refine wp_loop (spcRel w p cap l) (fun a' _=>l.length-(intAt (a'.tmps.getD 8 undef)).toNat) ?_ ?_
 ·unfold spcRel
  exact⟨Below.refl _ _,0,frame_ex rfl,Nat.zero_le _,fun k x hk=>by omega⟩
 ·rintro a' W ⟨hW0,i,⟨u,rfl⟩,hi',hall⟩
  have hz:=hW0.size
  replace hall:=Hd hall
  rcases Nat.lt_or_ge i l.length with hlt|hge
  ·obtain⟨⟨x,y⟩,tr⟩:∃r,l[i]? =some r:=⟨l[i]'(by omega),List.getElem?_eq_getElem (by omega)⟩
   obtain⟨b,o,rfl,q0,q1⟩:=(h.below hW0).at' i _ tr
   replace tr:=Hd tr
   simp only at q0 q1
   have cb:=c_spCheck x y
   unfold spE at cb
   by_cases hxy:x<=y
   ·rw[if_pos hxy] at cb
    replace cb:=Hd cb
    replace hxy:=Hd hxy
    go_wp2_with fail
    refine(cb.out _).mono ?_
    rintro e w21 ⟨rfl,hb21⟩
    have z22:=hb21.size
    try simp at z22
    refine haveB W w21 (Bc W.heap.size #[x,y] 33<|Bz) ?_
    rintro hW z23 ⟨⟨b1,yb1,k1,f1⟩,-⟩
    clear hb21
    go_wp2
    rw[show (i:Int)+1=((i+1:Nat):Int) by omega]
    refine⟨?_,by simp[intAt];omega⟩
    unfold spcRel
    exact⟨hW0.trans (hW.mono hz),i+1,frame_ex rfl,by omega,fun k z hk hz=>by
     rcases Nat.lt_or_ge k i with h|h
     ·exact hall.out k z h hz
     ·obtain rfl:k=i:=by omega
      rw[tr.out] at hz
      injection hz with hz
      rw[<-hz];exact hxy.out⟩
   ·rw[if_neg hxy] at cb
    replace cb:=Hd cb
    have hno:=Hd (show spsE l=140 by
     unfold spsE
     rw[if_neg]
     intro hh
     have:=List.all_eq_true.1 hh _ (List.mem_of_getElem? tr.out)
     simp at this
     exact hxy this)
    clear hxy
    go_wp2_with fail
    refine(cb.out _).mono ?_
    rintro e w21 ⟨rfl,hb21⟩
    have z22:=hb21.size
    try simp at z22
    refine haveB W w21 (Bc W.heap.size #[x,y] 33<|Bz) ?_
    rintro hW z23 ⟨⟨b1,yb1,k1,f1⟩,-⟩
    clear hb21
    go_wp2
    go_ret
    exact⟨by rw[hno.out];rfl,hW0.trans (hW.mono hz)⟩
  ·obtain rfl:i=l.length:=by omega
   have hyes:=Hd (show spsE l=0 by
    unfold spsE
    rw[if_pos]
    rw[List.all_eq_true]
    intro x hx
    obtain⟨k,hk⟩:=List.getElem?_of_mem hx
    simpa using hall.out k x (List.getElem?_eq_some_iff.1 hk).1 hk)
   go_wp2
   go_ret
   exact⟨by rw[hyes.out];rfl,hW0⟩
theorem c_spEnd1 (a b:Int) (w:World):Cb 148 #[.agg #[a,b]] w (a):=by
 go_enter Tryz.func148,Tryz.ntmps148
 go_wp2
 go_ret
 exact⟨rfl,belowAny⟩
theorem c_spEnd2 (a b:Int) (w:World):Cb 149 #[.agg #[a,b]] w (b):=by
 go_enter Tryz.func149,Tryz.ntmps149
 go_wp2
 go_ret
 exact⟨rfl,belowAny⟩
theorem lsum_step {α:Type} {l:List α} {i:Nat} {x:α} (g:α->Int) (h:l[i]? =some x):lsum ((l.take (i+1)).map g)=lsum ((l.take i).map g)+g x:=by
 rw[List.take_add_one,h,List.map_append,lsum_append]
 simp[lsum]
theorem ends_bd {α:Type} (g:α->Int) (l:List α) (h:∀x,x∈l->I64 (g x)): -(9223372036854775808*l.length)<=lsum (l.map g)/\lsum (l.map g)<=9223372036854775808*l.length:=by
 have:=lsum_bd (l:=l.map g) (B:=9223372036854775808) (fun v hv=>by
  obtain⟨x,hx,rfl⟩:=List.mem_map.1 hv
  have:=h x hx
  unfold I64 at this
  omega)
 simpa using this
theorem tot_step (S x:Int) (hS: -18446744073709551616000000<=S/\S<=18446744073709551616000000) (hx:I64 x):
  wrap64 (hiW S+wrap64 (x/9223372036854775808+wrap64 (sumC (loW S) (IntKind.u64.wrap x) 0)))=hiW (S+x)/\sumLo (loW S) (IntKind.u64.wrap x) 0=loW (S+x):=by
 obtain⟨h1,h2⟩:=hx
 rw[u64_eq x,show x%18446744073709551616=loW x from rfl]
 have w1:∀z:Int,-1000000000000000000<=z->z<=1000000000000000000->wrap64 z=z:=fun z h1 h2=>by rw[wrap64_eq];omega
 have e1:x/9223372036854775808=hiW x:=by unfold hiW;omega
 have e2:sumC (loW S) (loW x) 0=hiW (S+x)-hiW S-hiW x:=by unfold sumC loW hiW;omega
 have b1:0<=sumC (loW S) (loW x) 0/\sumC (loW S) (loW x) 0<=1:=by unfold sumC loW;omega
 have b2: -1<=hiW x/\hiW x<=0:=by unfold hiW;omega
 have b3: -1000001<=hiW S/\hiW S<=1000001:=by unfold hiW;omega
 refine⟨?_,?_⟩
 ·rw[e1,w1 (sumC (loW S) (loW x) 0) (by omega) (by omega),w1 (hiW x+_) (by omega) (by omega),w1 (hiW S+_) (by omega) (by omega),e2];omega
 ·unfold sumLo loW;omega
theorem tot_fin (S:Int) (hS: -18446744073709551616000000<=S/\S<=18446744073709551616000000):wrap64 (loW S)=wrap64 S/\(hiW S==wrap64 (loW S)/9223372036854775808)=inI S:=by
 refine⟨by rw[wrap64_eq,wrap64_eq];unfold loW;omega,?_⟩
 rw[Bool.eq_iff_iff,wrap64_eq]
 unfold inI
 simp only[beq_iff_eq,decide_eq_true_eq]
 unfold I64 hiW loW
 omega
def spt1Rel (w:World) (p:Option Addr) (cap:Nat) (l:List (Int×Int)) (a':Act) (W:World):Prop:=
 Below w.heap.size w W/\∃i:Nat,(∃u:Nat->Value,a'= {tmps:= #[.slice p l.length cap,.func (.func 148) #[] #[],u 2,u 3,u 4,u 5,.int .u64 (loW (lsum ((l.take i).map (·.1)))),.int .i64 (hiW (lsum ((l.take i).map (·.1)))),u 8,u 9,u 10,u 11,.slice p l.length cap,.int .i64 (l.length:Int),.int .i64 (i:Int),u 15,u 16,u 17,u 18,u 19,u 20,u 21,u 22,u 23,u 24,u 25,u 26,u 27,u 28,u 29,u 30,u 31,u 32,u 33,u 34,u 35,u 36,u 37,u 38,u 39,u 40,u 41,u 42],defers:= []})/\i<=l.length
theorem c_spTot1 (p:Option Addr) (cap:Nat) (l:List (Int×Int)) (w:World) (hlen:l.length<=1000000) (h:PtsIn w p l) (hv:∀x,x∈l->I64 x.1/\I64 x.2):
  Cb 94 #[.slice p l.length cap,.func (.func 148) #[] #[]] w (.tuple #[.int .i64 (wrap64 (lsum (l.map (·.1)))),.bool (inI (lsum (l.map (·.1))))]):=by
 have hv0:=hv
 replace hv:=Hd hv
 go_enter Tryz.func94,Tryz.ntmps94
 go_wp2
 refine wp_loop (spt1Rel w p cap l) (fun a' _=>l.length-(intAt (a'.tmps.getD 14 undef)).toNat) ?_ ?_
 ·unfold spt1Rel
  exact⟨Below.refl _ _,0,frame_ex rfl,Nat.zero_le _⟩
 ·rintro a' W ⟨hW0,i,⟨u,rfl⟩,hi'⟩
  have hz:=hW0.size
  rcases Nat.lt_or_ge i l.length with hlt|hge
  ·obtain⟨⟨x,y⟩,tr⟩:∃r,l[i]? =some r:=⟨l[i]'(by omega),List.getElem?_eq_getElem (by omega)⟩
   obtain⟨b,o,rfl,q0,q1⟩:=(h.below hW0).at' i _ tr
   have hx:=hv.out _ (List.mem_of_getElem? tr)
   have hstep:=Hd (lsum_step (fun z:Int×Int=>z.1) tr)
   have hbd:=ends_bd (fun z:Int×Int=>z.1) (l.take i) (fun z hz=>(hv.out z (List.mem_of_mem_take hz)).1)
   have hbl:(l.take i).length<=1000000:=by rw[List.length_take];omega
   have hxv:I64 x:=hx.1
   clear hx tr
   simp only at q0 q1
   obtain⟨S,hS⟩:∃S,lsum ((l.take i).map (·.1))=S:=⟨_,rfl⟩
   rw[hS] at hstep hbd⊢
   clear hS
   obtain⟨e1,e2⟩:=tot_step S x (by omega) hxv
   have hL:=loW_bd S
   have hL2:=u64_bd x
   obtain⟨e4,e5⟩:=hxv
   clear hbd hbl
   have a1:=add64 (loW S) (IntKind.u64.wrap x) 0 hL.1 hL2.1 (by decide) (by decide)
   obtain⟨HI,hHI⟩:∃z,hiW S=z:=⟨_,rfl⟩
   obtain⟨LO,hLO⟩:∃z,loW S=z:=⟨_,rfl⟩
   rw[hHI] at e1⊢
   rw[hLO] at e1 e2 a1⊢
   replace e1:=Hd e1
   replace e2:=Hd e2
   clear hHI hLO hL hL2
   go_wp2_with fail
   refine(c_spEnd1 _ _ _).mono ?_
   rintro e w21 ⟨rfl,hb21⟩
   have z22:=hb21.size
   try simp at z22
   refine haveB W w21 (Bc W.heap.size #[x,y] 33<|Bz) ?_
   rintro hW z23 ⟨⟨b1,yb1,k1,f1⟩,-⟩
   clear hb21
   go_wp2
   rw[show (i:Int)+1=((i+1:Nat):Int) by omega]
   refine⟨?_,by simp[intAt];omega⟩
   unfold spt1Rel
   exact⟨hW0.trans (hW.mono hz),i+1,by rw[hstep.out,<-e1.out,<-e2.out];exact frame_ex rfl,by omega⟩
  ·obtain rfl:i=l.length:=by omega
   rw[List.take_length]
   have hbd:=ends_bd (fun z:Int×Int=>z.1) l (fun z hz=>(hv.out z hz).1)
   obtain⟨S,hS⟩:∃S,lsum (l.map (·.1))=S:=⟨_,rfl⟩
   rw[hS] at hbd⊢
   have e1:=Hd (tot_fin S (by omega))
   replace hS:=Hd hS
   clear hbd
   go_wp2
   go_ret2
   refine⟨?_,hW0⟩
   rw[hS.out,<-e1.out.1,<-e1.out.2]
   rfl
def spt2Rel (w:World) (p:Option Addr) (cap:Nat) (l:List (Int×Int)) (a':Act) (W:World):Prop:=
 Below w.heap.size w W/\∃i:Nat,(∃u:Nat->Value,a'= {tmps:= #[.slice p l.length cap,.func (.func 149) #[] #[],u 2,u 3,u 4,u 5,.int .u64 (loW (lsum ((l.take i).map (·.2)))),.int .i64 (hiW (lsum ((l.take i).map (·.2)))),u 8,u 9,u 10,u 11,.slice p l.length cap,.int .i64 (l.length:Int),.int .i64 (i:Int),u 15,u 16,u 17,u 18,u 19,u 20,u 21,u 22,u 23,u 24,u 25,u 26,u 27,u 28,u 29,u 30,u 31,u 32,u 33,u 34,u 35,u 36,u 37,u 38,u 39,u 40,u 41,u 42],defers:= []})/\i<=l.length
theorem c_spTot2 (p:Option Addr) (cap:Nat) (l:List (Int×Int)) (w:World) (hlen:l.length<=1000000) (h:PtsIn w p l) (hv:∀x,x∈l->I64 x.1/\I64 x.2):
  Cb 94 #[.slice p l.length cap,.func (.func 149) #[] #[]] w (.tuple #[.int .i64 (wrap64 (lsum (l.map (·.2)))),.bool (inI (lsum (l.map (·.2))))]):=by
 have hv0:=hv
 replace hv:=Hd hv
 go_enter Tryz.func94,Tryz.ntmps94
 go_wp2
 refine wp_loop (spt2Rel w p cap l) (fun a' _=>l.length-(intAt (a'.tmps.getD 14 undef)).toNat) ?_ ?_
 ·unfold spt2Rel
  exact⟨Below.refl _ _,0,frame_ex rfl,Nat.zero_le _⟩
 ·rintro a' W ⟨hW0,i,⟨u,rfl⟩,hi'⟩
  have hz:=hW0.size
  rcases Nat.lt_or_ge i l.length with hlt|hge
  ·obtain⟨⟨x,y⟩,tr⟩:∃r,l[i]? =some r:=⟨l[i]'(by omega),List.getElem?_eq_getElem (by omega)⟩
   obtain⟨b,o,rfl,q0,q1⟩:=(h.below hW0).at' i _ tr
   have hx:=hv.out _ (List.mem_of_getElem? tr)
   have hstep:=Hd (lsum_step (fun z:Int×Int=>z.2) tr)
   have hbd:=ends_bd (fun z:Int×Int=>z.2) (l.take i) (fun z hz=>(hv.out z (List.mem_of_mem_take hz)).2)
   have hbl:(l.take i).length<=1000000:=by rw[List.length_take];omega
   have hxv:I64 y:=hx.2
   clear hx tr
   simp only at q0 q1
   obtain⟨S,hS⟩:∃S,lsum ((l.take i).map (·.2))=S:=⟨_,rfl⟩
   rw[hS] at hstep hbd⊢
   clear hS
   obtain⟨e1,e2⟩:=tot_step S y (by omega) hxv
   have hL:=loW_bd S
   have hL2:=u64_bd y
   obtain⟨e4,e5⟩:=hxv
   clear hbd hbl
   have a1:=add64 (loW S) (IntKind.u64.wrap y) 0 hL.1 hL2.1 (by decide) (by decide)
   obtain⟨HI,hHI⟩:∃z,hiW S=z:=⟨_,rfl⟩
   obtain⟨LO,hLO⟩:∃z,loW S=z:=⟨_,rfl⟩
   rw[hHI] at e1⊢
   rw[hLO] at e1 e2 a1⊢
   replace e1:=Hd e1
   replace e2:=Hd e2
   clear hHI hLO hL hL2
   go_wp2_with fail
   refine(c_spEnd2 _ _ _).mono ?_
   rintro e w21 ⟨rfl,hb21⟩
   have z22:=hb21.size
   try simp at z22
   refine haveB W w21 (Bc W.heap.size #[x,y] 33<|Bz) ?_
   rintro hW z23 ⟨⟨b1,yb1,k1,f1⟩,-⟩
   clear hb21
   go_wp2
   rw[show (i:Int)+1=((i+1:Nat):Int) by omega]
   refine⟨?_,by simp[intAt];omega⟩
   unfold spt2Rel
   exact⟨hW0.trans (hW.mono hz),i+1,by rw[hstep.out,<-e1.out,<-e2.out];exact frame_ex rfl,by omega⟩
  ·obtain rfl:i=l.length:=by omega
   rw[List.take_length]
   have hbd:=ends_bd (fun z:Int×Int=>z.2) l (fun z hz=>(hv.out z hz).2)
   obtain⟨S,hS⟩:∃S,lsum (l.map (·.2))=S:=⟨_,rfl⟩
   rw[hS] at hbd⊢
   have e1:=Hd (tot_fin S (by omega))
   replace hS:=Hd hS
   clear hbd
   go_wp2
   go_ret2
   refine⟨?_,hW0⟩
   rw[hS.out,<-e1.out.1,<-e1.out.2]
   rfl
theorem c_recLetter (r:Nat) (w:World):Cb 161 #[.int .i32 r] w (.bool (letterB r)):=by
 go_enter Tryz.func161,Tryz.ntmps161
 go_upto_region 1 with(fail)
 refine wp_cutB w (Bz) ?_
 rintro W1 hW z2 hL
 refine wp_regS 15 17 hW hL ?_
 iterate 3 refine dA ?_
 iterate 2 refine gA ?_
 refine pA ?_
 refine dA ?_
 iterate 3 refine gA ?_
 iterate 2 refine gB ?_
 refine pgA ?_
 refine pO ?_
 refine dA ?_
 clear hW hL
 rintro W3 hW z4 hL
 simp only[ndR]
 intros
 repeat (rename GDet _ _ _ _=>hgd;clear hgd)
 simp only[ndS]
 refine wpList_nil ?_
 obtain⟨-⟩:=hL
 go_wp2
 refine bodyPost_ret (v:= .bool ((decide (97<=(r:Int))&&decide ((r:Int)<=122))||(decide (48<=(r:Int))&&decide ((r:Int)<=57)))) (by simp[results,Tryz.results161,go_sem]) rfl ⟨?_,by exact belowAny⟩
 congr 2
 unfold letterB
 rw[Bool.eq_iff_iff]
 simp only[Bool.or_eq_true,Bool.and_eq_true,decide_eq_true_eq]
 omega
theorem c_srBtw (n lo hi:Int) (w:World):Cb 55 #[n,lo,hi] w (.bool (btw n lo hi)):=by
 unfold btw
 go_enter Tryz.func55,Tryz.ntmps55
 go_upto_region 1 with(fail)
 refine wp_cutB w (Bz) ?_
 rintro W1 hW z2 hL
 refine wp_regS 9 15 hW hL ?_
 iterate 4 refine dA ?_
 iterate 3 refine gA ?_
 refine pA ?_
 refine dA ?_
 clear hW hL
 rintro W3 hW z4 hL
 simp only[ndR]
 intros
 repeat (rename GDet _ _ _ _=>hgd;clear hgd)
 simp only[ndS]
 refine wpList_nil ?_
 obtain⟨-⟩:=hL
 go_wp2
 refine bodyPost_ret (by simp[results,Tryz.results55,go_sem]) rfl ⟨rfl,by exact belowAny⟩
theorem c_srScl (n:Int) (w:World):Cb 109 #[n] w (.bool (btw n (-40) 40)):=by
 unfold btw
 go_enter Tryz.func109,Tryz.ntmps109
 go_upto_region 1 with(fail)
 refine wp_cutB w (Bz) ?_
 rintro W1 hW z2 hL
 refine wp_regS 7 9 hW hL ?_
 iterate 3 refine dA ?_
 iterate 2 refine gA ?_
 refine pA ?_
 refine dA ?_
 clear hW hL
 rintro W3 hW z4 hL
 simp only[ndR]
 intros
 repeat (rename GDet _ _ _ _=>hgd;clear hgd)
 simp only[ndS]
 refine wpList_nil ?_
 obtain⟨-⟩:=hL
 go_wp2
 refine bodyPost_ret (by simp[results,Tryz.results109,go_sem]) rfl ⟨rfl,by exact belowAny⟩
theorem width_pos (s:ByteArray) (pos:Nat) (h:pos<s.size):1<=(Utf8.decode s pos).2:=by
 by_cases ha:(s[pos]'h).toNat<128
 ·rw[decode_ascii s pos h ha]
  exact Nat.le_refl _
 ·exact(decode_high s pos h (by omega)).2
def nmRel (w:World) (s:ByteArray) (ok:Bool) (a':Act) (W:World):Prop:=
 Below w.heap.size w W/\∃pos f:Nat,(∃u:Nat->Value,a'= {tmps:= #[.string s,u 1,u 2,.bool ok,u 4,u 5,u 6,u 7,u 8,u 9,u 10,u 11,u 12,u 13,u 14,.pointer (some ⟨w.heap.size,0,none⟩),u 16,u 17,u 18,u 19,u 20,u 21,u 22],defers:= []})/\W.heap[w.heap.size]? =some (.stringIter s pos)/\s.size<=pos+f/\lettersB s f pos=lettersB s s.size 0
theorem c_recName (s:ByteArray) (w:World):Cb 108 #[.string s] w (.bool (nameB s)):=by
 go_enter Tryz.func108,Tryz.ntmps108
 go_upto_region 1 with(fail)
 refine wp_scope_straight (wp_seq ?_)
 refine wp_cutB w (Bz) ?_
 rintro W1 hW z2 hL
 refine wp_regS 9 23 hW hL ?_
 iterate 4 refine dA ?_
 iterate 3 refine gA ?_
 refine pA ?_
 refine dA ?_
 clear hW hL
 rintro W3 hW z4 hL
 simp only[ndR]
 intros
 repeat (rename GDet _ _ _ _=>hgd;clear hgd)
 simp only[ndS]
 refine wpList_nil ?_
 obtain⟨-⟩:=hL
 have hok:(decide (1<=(s.size:Int))&&decide ((s.size:Int)<=12))=decide (1<=s.size/\s.size<=12):=by
  rw[Bool.eq_iff_iff]
  simp only[Bool.and_eq_true,decide_eq_true_eq]
  omega
 rw[hok]
 obtain⟨ok,ho⟩:∃b,decide (1<=s.size/\s.size<=12)=b:=⟨_,rfl⟩
 rw[ho]
 replace ho:=Hd ho
 clear hok
 simp only[Exit.then]
 refine wp_seq (wp_label ?_)
 go_wp2
 refine wp_loop (nmRel W3 s ok) (fun _ W=>s.size-W.iterPos W3.heap.size) ?_ ?_
 ·unfold nmRel
  have hit:=World.iter_heap W3 s 0
  exact⟨(Below.refl _ _).alloc (Nat.le_refl _) _,0,s.size,frame_ex rfl,by simpa using hit,by omega,rfl⟩
 ·rintro a' W ⟨hW0,pos,f,⟨u,rfl⟩,hit,hf,hlet⟩
  have hz:=hW0.size
  have hlt:=(Array.getElem?_eq_some_iff.1 hit).1
  by_cases hp:pos<s.size
  ·have hnx:∀ty,(Instr.next (.pointer (some ⟨W3.heap.size,0,none⟩)) true ty).run Tryz.prog W=_:=fun ty=>Lib.run_next_any_at W W3.heap.size s pos ty hit hp
   have hwd:=width_pos s pos hp
   have hit2:=Lib.iterAt_heap W W3.heap.size s pos (pos+(Utf8.decode s pos).2) hit
   have hbw2:=Lib.below_iterAt hW0 (k:=W3.heap.size) (Nat.le_refl _) s (pos+(Utf8.decode s pos).2)
   obtain⟨f,rfl⟩:∃g,f=g+1:=⟨f-1,by omega⟩
   have hst:lettersB s (f+1) pos=(letterB (Utf8.decode s pos).1&&lettersB s f (pos+(Utf8.decode s pos).2)):=by simp[lettersB,hp]
   rw[hst] at hlet
   obtain⟨r,hr⟩:∃r,(Utf8.decode s pos).1=r:=⟨_,rfl⟩
   obtain⟨d,hd⟩:∃d,(Utf8.decode s pos).2=d:=⟨_,rfl⟩
   have hm:s.size-(pos+d)<s.size-W.iterPos W3.heap.size:=by
    simp only[World.iterPos,hit];omega
   rw[hd] at hit2 hbw2 hlet hwd
   rw[hr] at hlet
   simp only[hr,hd] at hnx
   obtain⟨W4,hW4⟩:∃W4,W.iterAt W3.heap.size s (pos+d)=W4:=⟨_,rfl⟩
   rw[hW4] at hit2 hbw2
   simp only[hW4] at hnx
   have cl:=fun W=>c_recLetter r W
   clear hst hr hd hW4 hit hlt
   replace hit2:=Hd hit2
   replace hm:=Hd hm
   cases hlb:letterB r with
   |true=>
    rw[hlb] at cl hlet
    replace cl:=Hd cl
    replace hlet:=Hd hlet
    clear hlb
    go_wp2_with fail
    refine(cl.out _).mono ?_
    rintro e w5 ⟨rfl,hb5⟩
    have hit5:=Hd ((hb5.block _ (Array.getElem?_eq_some_iff.1 hit2.out).1).trans hit2.out)
    go_wp2
    refine⟨?_,by simp only[World.iterPos,hit5.out];exact hm.out⟩
    unfold nmRel
    exact⟨hbw2.trans (hb5.mono hbw2.size),pos+d,f,frame_ex rfl,hit5.out,by omega,by rw[<-hlet.out];rfl⟩
   |false=>
    rw[hlb] at cl hlet
    replace cl:=Hd cl
    have hno:=Hd (show nameB s=false by unfold nameB;rw[<-hlet];simp)
    clear hlb hlet
    go_wp2_with fail
    refine(cl.out _).mono ?_
    rintro e w5 ⟨rfl,hb5⟩
    go_wp2
    simp only[Exit.noGoto]
    go_ret
    exact⟨by rw[hno.out];rfl,hW.trans ((hbw2.trans (hb5.mono hbw2.size)).mono hW.size)⟩
  ·have hnx:∀ty,(Instr.next (.pointer (some ⟨W3.heap.size,0,none⟩)) true ty).run Tryz.prog W=_:=fun ty=>Lib.run_next_end_at W W3.heap.size s pos ty hit hp
   have hall:=Hd (show nameB s=ok by
    unfold nameB
    rw[<-hlet,ho.out]
    cases f with
    |zero=>simp[lettersB]
    |succ f=>simp[lettersB,hp])
   clear hlet
   go_wp2
   simp only[Exit.noGoto]
   go_ret
   exact⟨by rw[hall.out];rfl,hW.trans (hW0.mono hW.size)⟩
theorem c_srNums (nm:ByteArray) (ep fl la sc:Int) (ps po:Option Addr) (ns cs no co:Nat) (w:World):
  Cb 52 #[.agg #[.string nm,ep,fl,la,sc,.slice ps ns cs,.slice po no co]] w (.bool (nameB nm&&btw ep 0 1099511627776&&btw sc (-40) 40&&btw fl 0 281474976710656&&btw la (-1) 281474976710656)):=by
 go_enter Tryz.func52,Tryz.ntmps52
 go_upto_region 1 with(fail)
 refine wp_cutB w (Bc w.heap.size #[.string nm,ep,fl,la,sc,.slice ps ns cs,.slice po no co] 25<|Bz) ?_
 rintro W1 hW z2 hL
 refine wp_regS 24 26 hW hL ?_
 iterate 2 refine dA ?_
 refine cA (fun W' hC=>c_recName nm W') ?_
 refine dA ?_
 iterate 2 refine gA ?_
 refine cG (fun hp hx W' hC=>c_srBtw ep 0 1099511627776 W') ?_
 refine pA ?_
 refine dA ?_
 iterate 2 refine gA ?_
 refine cG (fun hp hx W' hC=>c_srScl sc W') ?_
 refine pA ?_
 refine dA ?_
 iterate 2 refine gA ?_
 refine cG (fun hp hx W' hC=>c_srBtw fl 0 281474976710656 W') ?_
 refine pA ?_
 refine dA ?_
 iterate 2 refine gA ?_
 refine cG (fun hp hx W' hC=>c_srBtw la (-1) 281474976710656 W') ?_
 refine pA ?_
 refine dA ?_
 clear hW hL
 rintro W3 hW z4 hL
 simp only[ndR]
 intros
 repeat (rename GDet _ _ _ _=>hgd;clear hgd)
 simp only[ndS]
 refine wpList_nil ?_
 obtain⟨⟨b1,yb1,k1,f1⟩,-⟩:=hL
 go_wp2
 refine bodyPost_ret (by simp[results,Tryz.results52,go_sem,k1,f1,yb1]) rfl ⟨rfl,by exact belowAny⟩
theorem scheck_no (K A R n d E:Int) (p q:Option Addr) (len cap m vc:Nat) (w:World)
  (c1:∀W,Below w.heap.size w W->Cb 150 #[.agg #[K,.slice p len cap,A,R,n,d,.slice q m vc,E]] W (.bool false)):
  Cb 110 #[.agg #[K,.slice p len cap,A,R,n,d,.slice q m vc,E]] w (.int .i64 210):=by
 have H_c1:=Hd c1
 clear c1
 go_enter Tryz.func110,Tryz.ntmps110
 go_upto_region 1 with(fail)
 refine wp_cutB w (Bc w.heap.size #[K,.slice p len cap,A,R,n,d,.slice q m vc,E] 98<|Bz) ?_
 rintro W1 hW z2 ⟨⟨b1,yb1,k1,f1⟩,-⟩
 go_wp2_with fail
 refine(H_c1.out _ (belowAny)).mono ?_
 rintro e w3 ⟨rfl,hb3⟩
 have z4:=hb3.size
 try simp at z4
 clear k1 f1
 refine haveB w w3 (Bc w.heap.size #[K,.slice p len cap,A,R,n,d,.slice q m vc,E] 98<|Bz) ?_
 clear b1 hW
 rintro hW z5 ⟨⟨b1,yb1,k1,f1⟩,-⟩
 clear hb3
 go_wp2
 refine bodyPost_ret (by simp[results,Tryz.results110,go_sem,k1,f1,yb1]) rfl ⟨rfl,by exact belowAny⟩
theorem scheck_yes (K A R n d E:Int) (p q:Option Addr) (len cap m vc:Nat) (w:World)
  (c1:∀W,Below w.heap.size w W->Cb 150 #[.agg #[K,.slice p len cap,A,R,n,d,.slice q m vc,E]] W (.bool true)):
  Cb 110 #[.agg #[K,.slice p len cap,A,R,n,d,.slice q m vc,E]] w (.int .i64 0):=by
 have H_c1:=Hd c1
 clear c1
 go_enter Tryz.func110,Tryz.ntmps110
 go_upto_region 1 with(fail)
 refine wp_cutB w (Bc w.heap.size #[K,.slice p len cap,A,R,n,d,.slice q m vc,E] 98<|Bz) ?_
 rintro W1 hW z2 ⟨⟨b1,yb1,k1,f1⟩,-⟩
 go_wp2_with fail
 refine(H_c1.out _ (belowAny)).mono ?_
 rintro e w3 ⟨rfl,hb3⟩
 have z4:=hb3.size
 try simp at z4
 clear k1 f1
 refine haveB w w3 (Bc w.heap.size #[K,.slice p len cap,A,R,n,d,.slice q m vc,E] 98<|Bz) ?_
 clear b1 hW
 rintro hW z5 ⟨⟨b1,yb1,k1,f1⟩,-⟩
 clear hb3
 go_wp2
 refine bodyPost_ret (by simp[results,Tryz.results110,go_sem,k1,f1,yb1]) rfl ⟨rfl,by exact belowAny⟩
theorem c_segCheckYes (s:SegT) (p q:Option Addr) (cap vc:Nat) (w:World) (h:SegIn w s p q) (hs:segB s=true):
  Cb 110 #[.agg (segA s p q cap vc)] w (.int .i64 0):=
 scheck_yes _ _ _ _ _ _ p q _ cap _ vc w (fun W hW=>by have:=c_segIs s p q cap vc W (h.below hW);rw[hs] at this;exact this)
theorem c_segCheckNo (s:SegT) (p q:Option Addr) (cap vc:Nat) (w:World) (h:SegIn w s p q) (hs:segB s=false):
  Cb 110 #[.agg (segA s p q cap vc)] w (.int .i64 210):=
 scheck_no _ _ _ _ _ _ p q _ cap _ vc w (fun W hW=>by have:=c_segIs s p q cap vc W (h.below hW);rw[hs] at this;exact this)
end Go.Proofs.YtidfcoooccblaaaGreat
namespace Go.Proofs.YtidfcoooccblaaaGreat
open Go.RowKit Go.Shelf
attribute [local go_sem] Oper.semAt_some
def okZ (z:(Int×Int)×(Int×Int)):Bool:=(z.2.1==z.1.1)&&isBack z.2.2
def farStep (f:Int) (z:(Int×Int)×(Int×Int)):Int:=mx (mx f (wrap64 (z.2.2-z.1.2))) (wrap64 (z.1.2-z.2.2))
def farOf (l:List ((Int×Int)×(Int×Int))):Int:=l.foldl farStep 0
structure KF (B0 n₀:Nat) (A B:World):Prop where
 below:Below B0 A B
 rest:∀(b:Nat) (cs:Array Value) (t:TypeId) (f:Nat×Nat),n₀<=b->A.heap[b]? =some (.cells cs t f)->B.heap[b]? =some (.cells cs t f)
theorem KF.refl (B0 n₀:Nat) (A:World):KF B0 n₀ A A:=⟨Below.refl _ _,fun _ _ _ _ _ h=>h⟩
theorem KF.trans {B0 n₀:Nat} {A B C:World} (h:KF B0 n₀ A B) (k:KF B0 n₀ B C):KF B0 n₀ A C:=⟨h.below.trans k.below,fun b cs t f hb ha=>k.rest b cs t f hb (h.rest b cs t f hb ha)⟩
theorem KF.alloc {B0 n₀:Nat} {A B:World} (h:KF B0 n₀ A B) (hB:B0<=B.heap.size) (o:Obj):KF B0 n₀ A (B.alloc o):=⟨h.below.alloc hB o,fun b cs t f hb ha=>(Below.heap_alloc B o b (lt_of_heap (h.rest b cs t f hb ha))).trans (h.rest b cs t f hb ha)⟩
theorem KF.set {B0 n₀:Nat} {A B:World} (h:KF B0 n₀ A B) {g i:Nat} (h1:B0<=g) (h2:g<n₀) (v:Value):KF B0 n₀ A (B.setCell ⟨g,i,none⟩ v):=⟨h.below.setCell (p:=⟨g,i,none⟩) h1 v,fun b cs t f hb ha=>(Below.heap_setCell B ⟨g,i,none⟩ v b (by simp;omega)).trans (h.rest b cs t f hb ha)⟩
theorem KF.calls {B0 n₀:Nat} {A B C:World} (h:KF B0 n₀ A B) (hb:Below B.heap.size B C) (hB:B0<=B.heap.size):KF B0 n₀ A C:=⟨h.below.trans (hb.mono hB),fun b cs t f hn ha=>(hb.block b (lt_of_heap (h.rest b cs t f hn ha))).trans (h.rest b cs t f hn ha)⟩
theorem KF.putObj {B0 n₀:Nat} {w:World} (hB:B0<=w.heap.size) (W:World) (l:Nat) (o o':Obj) (hl:w.heap.size<=l) (h:W.heap[l]? =some o) (h1:o.isCells=false) (h2:o.isWalk=false):KF B0 n₀ W (W.putObj l o'):=
 ⟨belowK_b hB W l o o' hl h h1 h2,fun b cs t f _ ha=>keepsT_putObj o' h h1 b cs f ha⟩
theorem KeepsOthers.calls {A B C:World} (h:KeepsOthers A B) (hb:Below B.heap.size B C):KeepsOthers A C:=⟨Nat.le_trans h.size hb.size,fun k o hk ho=>by
 have e:=h.same k o hk ho
 exact(hb.block k (lt_of_heap (e))).trans e⟩
def farR (s:SegT) (pts:List (Int×Int)):Int×Int:=if pts.length=(ptsL s).length then (if ((ptsL s).zip pts).all okZ then (farOf ((ptsL s).zip pts),0) else (0,2)) else (0,2)
def FarOut (s:SegT) (pts:List (Int×Int)) (w:World) (e:Ending) (w':World):Prop:=e= .returned (.tuple #[.int .i64 (farR s pts).1,.int .i64 (farR s pts).2])/\Below w.heap.size w w'
theorem keepsAny {A B:World} (h:KeepsOthers A B:=by repeat (first|with_reducible (exact KeepsOthers.refl _)|with_reducible (refine KeepsOthers.trans ?_ (KeepsOthers.setCell _ _ _))|with_reducible (refine KeepsOthers.trans ?_ (KeepsOthers.alloc _ _))|with_reducible (refine KeepsOthers.calls ?_ (by assumption)))):KeepsOthers A B:=h
theorem kfAny {B0 n₀:Nat} {A B:World} (h:KF B0 n₀ A B:=by repeat (first|with_reducible (exact KF.refl _ _ _)|with_reducible (refine KF.set ?_ (by omega) (by omega) _)|with_reducible (refine KF.alloc ?_ (by omega) _)|with_reducible (refine KF.calls ?_ (by assumption) (by first|omega|(simp;omega))))):KF B0 n₀ A B:=h
end Go.Proofs.YtidfcoooccblaaaGreat
