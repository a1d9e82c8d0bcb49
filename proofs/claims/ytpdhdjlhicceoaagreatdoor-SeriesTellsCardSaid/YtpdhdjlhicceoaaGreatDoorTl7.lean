/- Parts of the proof that follows. No condition. -/
import Derived.Laws.AppendOwnNone
import Derived.Lib.OthersKept
import Derived.Lib.RuneBytes
import Derived.Test.YtpdhdjlhicceoaaGreatDoorTl6
set_option maxRecDepth 100000
set_option maxHeartbeats 8000000
set_option linter.unusedSimpArgs false
set_option linter.unusedVariables false
namespace Go.Proofs.YtpdhdjlhicceoaaGreatDoor
open Go.RowKit Go.Shelf
theorem ownsRow_le {W:World} {b b':Nat} {e:TypeId} {s:Nat} {v:Value} {k:Nat} {xs:List Value} (h:W.ownsRow b e s v k xs) (hb:b'<=b):W.ownsRow b' e s v k xs:=by
 obtain⟨h1,h2|⟨g,cap,cur,e1,hg,r⟩⟩:=h
 ·exact⟨h1,.inl h2⟩
 ·exact⟨h1,.inr ⟨g,cap,cur,e1,Nat.le_trans hb hg,r⟩⟩
theorem keepsT_putObj {T:TypeId} {W:World} {l:Nat} {o:Obj} (o':Obj) (hl:W.heap[l]? =some o) (ho:o.isCells=false):KeepsT T W (W.putObj l o'):=by
 intro b cs f hb
 rw[World.putObj_heap_other]
 ·exact hb
 ·rintro rfl
  rw[hb] at hl
  cases hl
  cases ho
theorem collectI (gf:Nat) (lb:Array Value) (xs:List Int) (hlen:xs.length<=1000000) (w w0:World) (hw0:Below w0.heap.size w0 w) (Kp:World->World->Prop) (enters:∀args w,(callFunc gf args).run Tryz.prog w= .ok (.enter gf args) w)
  (hKp:∀ {A B},Below w.heap.size A B->(∀T,T≠47->T≠2->KeepsT T A B)->Kp A B) (hKt:∀ {A B C},Kp A B->Kp B C->Kp A C) (hKb:∀(W:World) (l:Nat) (o o':Obj),w.heap.size<=l->W.heap[l]? =some o->o.isCells=false->o.isWalk=false->Kp W (W.putObj l o'))
  (hseq:SeqStopsK Fence.wide 2 Tryz.prog gf lb (fun x:Int=> #[Value.int .i64 x]) Kp (fun ys=>ys=xs) (fun pre=>pre<+:xs) xs.length w0):
  Calls Tryz.prog 143 #[.func (.func gf) #[] lb] w fun e W'=>∃v,e= .returned v/\W'.ownsRow w.heap.size 2 1 v xs.length (xs.map (Value.int .i64))/\Below w.heap.size w W':=by
 have c1:=Hd (callsIn_wide.1 (appendSeqI gf lb xs hlen w w0 hw0 Kp enters hKp hKt hKb hseq))
 clear hKp hKt hKb hseq enters hw0
 go_enter Tryz.func143,Tryz.ntmps143
 go_wp2_with fail
 refine c1.out.mono ?_
 rintro e w1 ⟨v,rfl,hv,hB⟩
 replace hv:=Hd hv
 replace hB:=Hd hB
 go_wp2
 go_ret
 exact⟨v,rfl,hv.out,hB.out⟩
theorem all_w (p:Option Addr) (len cap:Nat) (w:World):Calls Tryz.prog 144 #[.slice p len cap] w fun e w'=>e= .returned (.func (.func 191) #[] #[.pointer (some ⟨w.heap.size,0,none⟩)])/\w'=w.alloc (.cells #[.slice p len cap] 44):=by
 have hmf:∀(fn:Fn) (first cap:Array Value) (w:World),(Instr.makeFunc fn first cap).run Tryz.prog w= .ok (.func fn first cap) w:=fun _ _ _ _=>rfl
 go_enter Tryz.func144,Tryz.ntmps144
 go_wp2
 go_ret
 exact⟨rfl,rfl⟩
def TimesOut (w:World) (l:List RunT) (e:Ending) (w':World):Prop:=∃v,e= .returned (.tuple #[v,.int .i64 0])/\w'.ownsRow w.heap.size 2 1 v (timesL l).length ((timesL l).map (Value.int .i64))/\Below w.heap.size w w'
theorem collect_times (p:Option Addr) (cap:Nat) (l:List RunT) (w:World) (Bs:Nat) (hl:RunsOk l) (h:RunsIn w p l) (hBs:Blk w Bs #[.slice p l.length cap] 44):
  Calls Tryz.prog 143 #[.func (.func 191) #[] #[.pointer (some ⟨Bs,0,none⟩)]] w fun e W'=>∃v,e= .returned v/\W'.ownsRow w.heap.size 2 1 v (timesL l).length ((timesL l).map (Value.int .i64))/\Below w.heap.size w W':=by
 have hlt:∀a,p=some a->a.block<w.heap.size:=by
  rintro a rfl
  have:=hl.some'
  obtain⟨b,o,e,k0,_⟩:=h.at' 0 (l[0]'(by omega)) (List.getElem?_eq_getElem (by omega))
  cases e
  exact cell_lt k0
 have hcnt:=hl.count
 have hlen:=length_times hl
 refine collectI 191 _ (timesL l) (by omega) w w (Below.refl _ _) (fun A B=>Below w.heap.size A B/\KeepsT 69 A B) (enters_of Tryz.func191 (by kernel_rfl) rfl)
  (fun hb hk=>⟨hb,hk _ (by decide) (by decide)⟩) (fun h k=>⟨h.1.trans k.1,h.2.trans k.2⟩) (fun W k o o' hk ho h1 h2=>⟨belowK_b (Nat.le_refl _) W k o o' hk ho h1 h2,keepsT_putObj o' ho h1⟩) ?_
 intro lr J Jx W hW hJ _ hY h0
 exact all1_in 2 (by omega) lr Bs w.heap.size p cap l hl.each (by have:=hl.few;omega) _ (fun h=>h) J Jx _ hJ hY W ((hBs.below hW).cell 0) (h.below hW) hlt hW.size h0
theorem c_Times (p:Option Addr) (cap:Nat) (l:List RunT) (w:World) (hl:RunsOk l) (h:RunsIn w p l):Calls Tryz.prog 107 #[.slice p l.length cap] w (TimesOut w l):=by
 have hlen:=hl.few
 have c1:=fun W (hW:Below w.heap.size w W)=>rises_w p cap l W (by omega) (h.below hW)
 rw[(risesB_iff l).2 hl] at c1
 have c2:=Hd (fun W Bs (hW:Below w.heap.size w W) (hb:Blk W Bs #[.slice p l.length cap] 44)=>collect_times p cap l W Bs hl (h.below hW) hb)
 have H_c1:=Hd c1
 clear c1
 go_enter Tryz.func107,Tryz.ntmps107
 have c1:=H_c1.out
 go_wp2_with fail
 refine(c1 _ (belowAny)).mono ?_
 rintro e w1 ⟨rfl,hb1⟩
 clear c1
 have z1:=hb1.size
 go_wp2_with fail
 refine(all_w _ _ _ _).mono ?_
 rintro e w2 ⟨rfl,rfl⟩
 go_wp2_with fail
 refine(c2.out _ _ (belowAny) (Blk.new' rfl)).mono ?_
 rintro e w3 ⟨v,rfl,hv,hB⟩
 replace hv:=Hd hv
 have hBB:Hid (Below w.heap.size w w3):=Hd (belowAny)
 clear hB
 go_wp2
 refine bodyPost_ret (v:= .tuple #[v,.int .i64 0]) (by simp[results,Tryz.results107,go_sem]) rfl ⟨v,rfl,ownsRow_le hv.out (by simp;omega),hBB.out⟩
attribute [local go_sem] Oper.semAt_some
def ptsL (s:SegT):List (Int×Int):=(timesL s.runs).zip (vals s)
theorem abides_below {β:Type} {B:Nat} {J:β->World->Prop} (hJ:AbidesFrom B J) {s:β} {A C:World} (h:J s A) (hb:Below A.heap.size A C):J s C:=
 hJ s A C none h ⟨hb.os,hb.tape,hb.output,hb.size,fun i hi _=>hb.block i hi⟩ (fun r e=>by cases e)
structure KeepsPts (s:SegT) (p q:Option Addr) (cap vc Bs n₀:Nat) (A B:World):Prop where
 size:A.heap.size<=B.heap.size
 seg:SegIn A s p q->SegIn B s p q
 box:Blk A Bs (segA s p q cap vc) 93->Blk B Bs (segA s p q cap vc) 93
 nums:∀(b:Nat) (cs:Array Value),n₀<=b->Blk A b cs 2->Blk B b cs 2
def flatPts (l:List (Int×Int)):List Value:=l.flatMap fun x=> [.int .i64 x.1,.int .i64 x.2]
theorem flatPts_snoc (l:List (Int×Int)) (x:Int×Int):flatPts (l++ [x])=flatPts l++ [.int .i64 x.1,.int .i64 x.2]:=by simp[flatPts]
theorem Tryz.infoPoint :(Tryz.prog.info? 53).map (fun i=>(i.zero,i.size,i.bytes))=some (some (.agg #[.int .i64 0,.int .i64 0]),2,16):=by kernel_rfl
theorem cell_two_new (W:World) (a b:Value) (t:TypeId) (j:Nat) (u:Value) (h: [a,b][j]? =some u):(W.alloc (.cells #[a,b] t)).cell? ((⟨W.heap.size,0,none⟩:Addr).add j)=some u:=by
 have hb:Blk (W.alloc (.cells #[a,b] t)) W.heap.size #[a,b] t:=Blk.new' rfl
 have hadd:(⟨W.heap.size,0,none⟩:Addr).add j=⟨W.heap.size,j,none⟩:=by unfold Addr.add;split<;>simp_all
 rw[hadd,hb.cell]
 simpa using h
theorem blk_own {β:Type} (B:Nat) (t:TypeId) (f:β->Array Value):Own (fun s W=>Blk W B (f s) t):=fun s X Y row hs hg hrow=>by
 refine(hg.block B hs.lt fun e=> ?_).trans hs
 obtain⟨o,ho,hc⟩:=hrow B e.symm
 rw[show X.heap[B]? =_ from hs] at ho;cases ho;cases hc
theorem RunsIn.keep {w A B:World} {p:Option Addr} {l:List RunT} (h:RunsIn w p l) (hb:Below w.heap.size A B) (ha:RunsIn A p l):RunsIn B p l:=⟨fun i r hr=>by
 obtain⟨b,o,e,k0,k1,k2⟩:=ha.at' i r hr
 obtain⟨b',o',e',q0,_⟩:=h.at' i r hr
 rw[e] at e'
 injection e' with e'
 injection e' with e1 e2
 subst e1
 have hlt:=cell_lt q0
 exact⟨b,o,e,(hb.cell (p:=⟨b,_,none⟩) hlt).trans k0,(hb.cell (p:=⟨b,_,none⟩) hlt).trans k1,(hb.cell (p:=⟨b,_,none⟩) hlt).trans k2⟩⟩
theorem IntsIn.keep {w A B:World} {p:Option Addr} {l:List Int} (h:IntsIn w p l) (hb:Below w.heap.size A B) (ha:IntsIn A p l):IntsIn B p l:=⟨fun i r hr=>by
 obtain⟨b,o,e,k0⟩:=ha.at' i r hr
 obtain⟨b',o',e',q0⟩:=h.at' i r hr
 rw[e] at e'
 injection e' with e'
 injection e' with e1 e2
 subst e1
 exact⟨b,o,e,(hb.cell (p:=⟨b,_,none⟩) (cell_lt q0)).trans k0⟩⟩
theorem SegIn.keep {w A B:World} {s:SegT} {p q:Option Addr} (h:SegIn w s p q) (hb:Below w.heap.size A B) (ha:SegIn A s p q):SegIn B s p q:=⟨h.runs.keep hb ha.runs,h.raw.keep hb ha.raw,h.fewR,h.fewV⟩
def PtsIs (s:SegT) (B:Nat) (v:Value) (w:World):Prop:=w.ownsRow B 53 2 v (ptsL s).length (flatPts (ptsL s))
end Go.Proofs.YtpdhdjlhicceoaaGreatDoor
namespace Go.Proofs.YtpdhdjlhicceoaaGreatDoor
open Go.RowKit

structure PtsIn (w:World) (p:Option Addr) (l:List (Int×Int)):Prop where
 at':∀(i:Nat) (x:Int×Int),l[i]? =some x->∃b o,p=some ⟨b,o,none⟩/\w.cell? ⟨b,o+i*2,none⟩=some (.int .i64 x.1)/\w.cell? ⟨b,o+i*2+1,none⟩=some (.int .i64 x.2)
theorem PtsIn.below {w w':World} {p:Option Addr} {l:List (Int×Int)} (h:PtsIn w p l) (hb:Below w.heap.size w w'):PtsIn w' p l:=⟨fun i r hr=>by
 obtain⟨b,o,e,h1,h2⟩:=h.at' i r hr
 exact⟨b,o,e,(hb.cell (p:=⟨b,_,none⟩) (cell_lt h1)).trans h1,(hb.cell (p:=⟨b,_,none⟩) (cell_lt h1)).trans h2⟩⟩
theorem PtsIn.alloc {w:World} {p:Option Addr} {l:List (Int×Int)} (h:PtsIn w p l) (o:Obj):PtsIn (w.alloc o) p l:=h.below ((Below.refl _ _).alloc (Nat.le_refl _) o)
theorem PtsIn.calls {w w':World} {p:Option Addr} {l:List (Int×Int)} (h:PtsIn w p l) (hb:Below w.heap.size w w'):PtsIn w' p l:=h.below hb
theorem PtsIn.set' {w:World} {p:Option Addr} {o i:Nat} {v:Value} {l:List (Int×Int)} (h:PtsIn w p l) (hne:∀a,p=some a->a.block≠o):PtsIn (w.setCell ⟨o,i,none⟩ v) p l:=⟨fun k r hr=>by
 obtain⟨b,y,e,h1,h2⟩:=h.at' k r hr
 have hc:∀z,(w.setCell ⟨o,i,none⟩ v).cell? ⟨b,z,none⟩=w.cell? ⟨b,z,none⟩:=by
  intro z
  have:=heap_setCell_other w ⟨o,i,none⟩ b v (hne _ e)
  simp only[World.cell?,this]
 exact⟨b,y,e,(hc _).trans h1,(hc _).trans h2⟩⟩
theorem PtsIn.set {w:World} {g x o i:Nat} {v:Value} {l:List (Int×Int)} (h:PtsIn w (some ⟨g,x,none⟩) l) (hne:g≠o):PtsIn (w.setCell ⟨o,i,none⟩ v) (some ⟨g,x,none⟩) l:=h.set' fun a e=>by cases e;exact hne
theorem PtsIn.drew {w:World} {p:Option Addr} {l:List (Int×Int)} (h:PtsIn w p l):PtsIn w.drew p l:=⟨h.at'⟩
theorem PtsIn.rex {L:List Nat} {w w':World} {p:Option Addr} {l:List (Int×Int)} (h:PtsIn w p l) (hr:Rex L w w') (hL:L= []):PtsIn w' p l:=by subst hL;exact h.below hr.below
theorem flatPts_at :∀(l:List (Int×Int)) (i:Nat) (x:Int×Int),l[i]? =some x->(flatPts l)[i*2]? =some (.int .i64 x.1)/\(flatPts l)[i*2+1]? =some (.int .i64 x.2)
 | [],i,x,h=>by simp at h
 |y::l,0,x,h=>by
  simp at h
  subst h
  exact⟨rfl,rfl⟩
 |y::l,i+1,x,h=>by
  obtain⟨a,b⟩:=flatPts_at l i x (by simpa using h)
  have e:flatPts (y::l)= .int .i64 y.1:: .int .i64 y.2::flatPts l:=rfl
  rw[e,show (i+1)*2=i*2+1+1 by omega]
  exact⟨by simpa using a,by simpa using b⟩
theorem pts_in {w:World} {g n:Nat} {t:TypeId} {cur:Array Value} {l:List (Int×Int)} (hb:Blk w g cur t) (ht:cur.toList.take n=flatPts l):PtsIn w (some ⟨g,0,none⟩) l:=⟨fun i x hx=>by
 obtain⟨a,b⟩:=flatPts_at l i x hx
 refine⟨g,0,rfl,?_,?_⟩
 ·rw[hb.cell,Nat.zero_add];exact row_take ht a
 ·rw[hb.cell,Nat.zero_add];exact row_take ht b⟩
def selB (a b:Int) (x:Int×Int):Bool:=decide (a<=x.1)&&decide (x.1<=b)
def selL (a b:Int) (l:List (Int×Int)):List Int:=(l.filter (selB a b)).map (·.2)
structure SerT where
 name:ByteArray
 eps:Int
 floor:Int
 last:Int
 scale:Int
 segs:List SegT
 opn:List (Int×Int)
def letterB (r:Nat):Bool:=decide (97<=r/\r<=122)||decide (48<=r/\r<=57)
def lettersB (s:ByteArray):Nat->Nat->Bool
 |0,_=>true
 |f+1,pos=>if pos<s.size then letterB (Utf8.decode s pos).1&&lettersB s f (pos+(Utf8.decode s pos).2) else true
def nameB (s:ByteArray):Bool:=decide (1<=s.size/\s.size<=12)&&lettersB s s.size 0
def timesS (s:SerT):List Int:=s.segs.flatMap (fun x=>timesL x.runs)++s.opn.map (·.1)
def btw (n lo hi:Int):Bool:=decide (lo<=n)&&decide (n<=hi)
def numsB (s:SerT):Bool:=nameB s.name&&(btw s.eps 0 1099511627776&&(btw s.scale (-40) 40&&(btw s.floor 0 281474976710656&&btw s.last (-1) 281474976710656)))
def rowB:Int->List SegT->Bool
 |_,[]=>true
 |b,x::l=>segB x&&(decide (b<firstT x.runs)&&rowB (lastT x.runs) l)
def inSegB (eps floor:Int) (x:SegT):Bool:=decide (x.E<=eps)&&decide (floor<=lastT x.runs)
def inOpnB (floor:Int) (p:Int×Int):Bool:=btw p.1 floor 281474976710656&&btw p.2 (-2305843009213693952) 2305843009213693952
def riseB:Int->List Int->Bool
 |_,[]=>true
 |b,t::l=>decide (b<t)&&riseB t l
def lastOr:Int->List Int->Int
 |b,[]=>b
 |_,t::l=>lastOr t l
def keptN (s:SerT):Nat:=((timesS s).filter fun t=>decide (s.floor<=t)).length
def lastB (s:SerT):Bool:=decide (lastOr (-1) (timesS s)<0)||(s.last==lastOr (-1) (timesS s))
def checkB (s:SerT):Bool:=numsB s&&(rowB (-1) s.segs&&(decide (s.opn.length<32)&&(s.segs.all (inSegB s.eps s.floor)&&(s.opn.all (inOpnB s.floor)&&(riseB (-1) (timesS s)&&(lastB s&&decide (keptN s<=1024)))))))
def checkE (s:SerT):Int:=if checkB s=true then 0 else 340
theorem rowB_snoc :∀(l:List SegT) (b:Int) (x:SegT),rowB b (l++ [x])=(rowB b l&&(segB x&&decide ((l.getLast?.map fun y=>lastT y.runs).getD b<firstT x.runs)))
 | [],b,x=>by simp[rowB]<;>rfl
 |y::l,b,x=>by
  simp only[List.cons_append,rowB]
  rw[rowB_snoc l]
  cases l with
  |nil=>simp[Bool.and_assoc]<;>rfl
  |cons z l=>simp[Bool.and_assoc,List.getLast?_cons]<;>rfl
theorem rowB_seg :∀ {l:List SegT} {b:Int},rowB b l=true->∀x,x∈l->segB x=true
 | [],_,_,x,h=>by simp at h
 |y::l,b,hr,x,h=>by
  simp only[rowB,Bool.and_eq_true] at hr
  simp only[List.mem_cons] at h
  rcases h with rfl|h
  ·exact hr.1
  ·exact rowB_seg hr.2.2 x h
theorem riseB_snoc :∀(l:List Int) (b t:Int),riseB b (l++ [t])=(riseB b l&&decide (lastOr b l<t))
 | [],b,t=>by simp[riseB,lastOr]<;>rfl
 |y::l,b,t=>by simp only[List.cons_append,riseB,lastOr];rw[riseB_snoc l,Bool.and_assoc]<;>rfl
theorem lastOr_snoc :∀(l:List Int) (b t:Int),lastOr b (l++ [t])=t
 | [],_,_=>rfl
 |_::l,_,_=>by simp only[List.cons_append,lastOr];exact lastOr_snoc l _ _
theorem riseB_prefix {pre l:List Int} (h:pre<+:l) (b:Int) (hf:riseB b pre=false):riseB b l=false:=by
 obtain⟨t,rfl⟩:=h
 induction pre generalizing b with
 |nil=>simp[riseB] at hf
 |cons y l ih=>
  simp only[List.cons_append,riseB] at hf⊢
  cases hd:decide (b<y) with
  |false=>rfl
  |true=>rw[hd] at hf;simp only[Bool.true_and] at hf⊢;exact ih _ hf
def segBk (a b:Int) (x:SegT):List (Int×Int×Int):=((ptsL x).filter (selB a b)).map fun p=>(p.1,p.2,x.E)
def opnBk (a b:Int) (l:List (Int×Int)):List (Int×Int×Int):=(l.filter (selB a b)).map fun p=>(p.1,p.2,0)
def toldL (s:SerT) (a b:Int):List (Int×Int×Int):=s.segs.flatMap (segBk (mx a s.floor) b)++opnBk (mx a s.floor) b s.opn
def segPc (a b:Int) (x:SegT):List (List Int×Int):=if selL a b (ptsL x)= [] then [] else [(selL a b (ptsL x),x.E)]
def opnPc (a b:Int) (l:List (Int×Int)):List (List Int×Int):=(l.filter (selB a b)).map fun p=>([p.2],0)
def pcsL (s:SerT) (a b:Int):List (List Int×Int):=s.segs.flatMap (segPc (mx a s.floor) b)++opnPc (mx a s.floor) b s.opn
def pairs (g:List Int×Int):List (Int×Int):=g.1.map fun v=>(v,g.2)
def loL (l:List (Int×Int)):List Int:=l.map fun x=>x.1-x.2
def hiL (l:List (Int×Int)):List Int:=l.map fun x=>x.1+x.2
def shA (l:List (Int×Int)):Array Value:= #[.int .i64 l.length,.int .i64 (minL (loL l)),.int .i64 (minL (hiL l)),.int .i64 (maxL (loL l)),.int .i64 (maxL (hiL l)),.int .i64 (hiW (lsum (loL l))),.int .u64 (loW (lsum (loL l))),.int .i64 (hiW (lsum (hiL l))),.int .u64 (loW (lsum (hiL l)))]
def wholeL (s:SerT) (a b:Int):List (Int×Int):=(toldL s a b).map (·.2)
def wholeE (s:SerT) (a b:Int):Int:=if checkB s=true then (if toldL s a b= [] then 9 else 0) else 340
def wholeV (s:SerT) (a b:Int):List (Int×Int):=if checkB s=true then wholeL s a b else []
def l0:List RunT:= [⟨10,2,4⟩]
def s0:SegT:=⟨2,l0,5,0,1,2,[],3⟩

def TyP (w:World) (p:Option Addr) (T:TypeId):Prop:=∀a,p=some a->∃cur fz,w.heap[a.block]? =some (.cells cur T fz)
theorem TyP.below {w w':World} {p:Option Addr} {T:TypeId} (h:TyP w p T) (hb:Below w.heap.size w w'):TyP w' p T:=fun a e=>by
 obtain⟨cur,fz,hh⟩:=h a e
 exact⟨cur,fz,(hb.block a.block (Array.getElem?_eq_some_iff.1 hh).1).trans hh⟩
theorem TyP.alloc {w:World} {p:Option Addr} {T:TypeId} (h:TyP w p T) (o:Obj):TyP (w.alloc o) p T:=h.below ((Below.refl _ _).alloc (Nat.le_refl _) o)
theorem TyP.setCell {w:World} {p:Option Addr} {T:TypeId} (h:TyP w p T) (a:Addr) (v:Value):TyP (w.setCell a v) p T:=fun b e=>by
 obtain⟨cur,fz,hh⟩:=h b e
 by_cases hb:b.block=a.block
 ·refine⟨if a.spot.isSome then cur else cur.setIfInBounds a.off v,fz,?_⟩
  simp only[World.setCell,Array.getElem?_modify]
  rw[if_pos hb.symm,hh];rfl
 ·exact⟨cur,fz,(heap_setCell_other w a b.block v hb).trans hh⟩
theorem TyP.new {w:World} {cs:Array Value} {T:TypeId} {g:Nat} (h:w.heap.size=g):TyP (w.alloc (.cells cs T)) (some ⟨g,0,none⟩) T:=fun a e=>by
 subst h
 cases e
 exact⟨cs,(0,0),heap_alloc_new w _⟩
theorem RunsIn.take {w:World} {p:Option Addr} {l:List RunT} (h:RunsIn w p l) (k:Nat):RunsIn w p (l.take k):=⟨fun i r hr=>h.at' i r (by
 rw[List.getElem?_take] at hr
 split at hr
 ·exact hr
 ·cases hr)⟩
theorem IntsIn.take {w:World} {p:Option Addr} {l:List Int} (h:IntsIn w p l) (k:Nat):IntsIn w p (l.take k):=⟨fun i r hr=>h.at' i r (by
 rw[List.getElem?_take] at hr
 split at hr
 ·exact hr
 ·cases hr)⟩
structure Came (w:World) (s:SegT) (p q:Option Addr) (cap vc:Nat):Prop where
 runs:RunsIn w p s.runs
 raw:IntsIn w q s.raw
 nilR:p=none->s.runs= []/\cap=0
 nilV:q=none->s.raw= []/\vc=0
 capR:s.runs.length<=cap
 capV:s.raw.length<=vc
 maxR:s.runs.length<=9223372036854775807
 maxV:s.raw.length<=9223372036854775807
def ownS (s:SegT):SegT:=⟨s.K,s.runs.take 300,s.A,s.R,s.n,s.d,s.raw.take 300,s.E⟩
def OwnOut (s:SegT) (w:World) (e:Ending) (w':World):Prop:=∃p' cap' q' vc',e= .returned (.agg (segA (ownS s) p' q' cap' vc'))/\Below w.heap.size w w'/\SegIn w' (ownS s) p' q'/\(ownS s).raw.length<=vc'
def OwnOutT (s:SegT) (w:World) (e:Ending) (w':World):Prop:=∃p' cap' q' vc',e= .returned (.agg (segA (ownS s) p' q' cap' vc'))/\Below w.heap.size w w'/\SegIn w' (ownS s) p' q'/\(ownS s).raw.length<=vc'/\TyP w' p' 69/\TyP w' q' 2
structure SegP (w:World) (s:SegT) (p q:Option Addr):Prop where
 seg:SegIn w s p q
theorem SegP.below {w w':World} {s:SegT} {p q:Option Addr} (h:SegP w s p q) (hb:Below w.heap.size w w'):SegP w' s p q:=⟨h.seg.below hb⟩
theorem SegP.alloc {w:World} {s:SegT} {p q:Option Addr} (h:SegP w s p q) (o:Obj):SegP (w.alloc o) s p q:=h.below ((Below.refl _ _).alloc (Nat.le_refl _) o)
theorem SegP.rex {L:List Nat} {w w':World} {s:SegT} {p q:Option Addr} (h:SegP w s p q) (hr:Rex L w w') (hL:L= []):SegP w' s p q:=by subst hL;exact h.below hr.below
theorem SegP.drew {w:World} {s:SegT} {p q:Option Addr} (h:SegP w s p q):SegP w.drew s p q:=⟨⟨⟨h.seg.runs.at'⟩,⟨h.seg.raw.at'⟩,h.seg.fewR,h.seg.fewV⟩⟩
structure PtsP (w:World) (b o:Nat) (l:List (Int×Int)):Prop where
 pts:PtsIn w (some ⟨b,o,none⟩) l
theorem PtsP.below {w w':World} {b o:Nat} {l:List (Int×Int)} (h:PtsP w b o l) (hb:Below w.heap.size w w'):PtsP w' b o l:=⟨h.pts.below hb⟩
theorem PtsP.rex {L:List Nat} {w w':World} {b o:Nat} {l:List (Int×Int)} (h:PtsP w b o l) (hr:Rex L w w') (hL:L= []):PtsP w' b o l:=by subst hL;exact h.below hr.below
theorem PtsP.drew {w:World} {b o:Nat} {l:List (Int×Int)} (h:PtsP w b o l):PtsP w.drew b o l:=⟨⟨h.pts.at'⟩⟩
theorem PtsP.cellAt {w:World} {b o:Nat} {l:List (Int×Int)} (h:PtsP w b o l) {i:Nat} {x:Int×Int} (hx:l[i]? =some x):w.cell? ⟨b,o+i*2,none⟩=some (.int .i64 x.1)/\w.cell? ⟨b,o+i*2+1,none⟩=some (.int .i64 x.2):=by
 obtain⟨b',o',e,h1,h2⟩:=h.pts.at' i x hx
 cases e
 exact⟨h1,h2⟩
def spE (a b:Int):Int:=if a<=b then 0 else 140
def spsE (l:List (Int×Int)):Int:=if l.all (fun x=>decide (x.1<=x.2))=true then 0 else 140
def spcRel (w:World) (p:Option Addr) (cap:Nat) (l:List (Int×Int)) (a':Act) (W:World):Prop:=
 Below w.heap.size w W/\∃i:Nat,(∃u:Nat->Value,a'= {tmps:= #[.slice p l.length cap,u 1,u 2,u 3,u 4,u 5,.slice p l.length cap,.int .i64 (l.length:Int),.int .i64 (i:Int),u 9,u 10,u 11,u 12,u 13,u 14,u 15,u 16,u 17],defers:= []})/\i<=l.length/\∀k x,k<i->l[k]? =some x->x.1<=x.2
theorem c_recLetter (r:Nat) (w:World):Cb 81 #[.int .i32 r] w (.bool (letterB r)):=by
 go_enter Tryz.func81,Tryz.ntmps81
 go_upto_region 1 with(fail)
 refine wp_cutB w (Bz) ?_
 rintro W1 hW z2 hL
 refine wp_regS 15 17 hW hL ?_
 iterate 3 refine dA ?_
 iterate 2 refine gA ?_
 refine pA ?_
 refine dA ?_
 iterate 3 refine gA ?_
 iterate 2 refine gB ?_
 refine pgA ?_
 refine pO ?_
 refine dA ?_
 clear hW hL
 rintro W3 hW z4 hL
 simp only[ndR]
 intros
 repeat (rename GDet _ _ _ _=>hgd;clear hgd)
 simp only[ndS]
 refine wpList_nil ?_
 obtain⟨-⟩:=hL
 go_wp2
 refine bodyPost_ret (v:= .bool ((decide (97<=(r:Int))&&decide ((r:Int)<=122))||(decide (48<=(r:Int))&&decide ((r:Int)<=57)))) (by simp[results,Tryz.results81,go_sem]) rfl ⟨?_,by exact belowAny⟩
 congr 2
 unfold letterB
 rw[Bool.eq_iff_iff]
 simp only[Bool.or_eq_true,Bool.and_eq_true,decide_eq_true_eq]
 omega
theorem c_srBtw (n lo hi:Int) (w:World):Cb 37 #[.int .i64 n,.int .i64 lo,.int .i64 hi] w (.bool (btw n lo hi)):=by
 unfold btw
 go_enter Tryz.func37,Tryz.ntmps37
 go_upto_region 1 with(fail)
 refine wp_cutB w (Bz) ?_
 rintro W1 hW z2 hL
 refine wp_regS 9 15 hW hL ?_
 iterate 4 refine dA ?_
 iterate 3 refine gA ?_
 refine pA ?_
 refine dA ?_
 clear hW hL
 rintro W3 hW z4 hL
 simp only[ndR]
 intros
 repeat (rename GDet _ _ _ _=>hgd;clear hgd)
 simp only[ndS]
 refine wpList_nil ?_
 obtain⟨-⟩:=hL
 go_wp2
 refine bodyPost_ret (by simp[results,Tryz.results37,go_sem]) rfl ⟨rfl,by exact belowAny⟩
theorem c_srScl (n:Int) (w:World):Cb 38 #[.int .i64 n] w (.bool (btw n (-40) 40)):=by
 unfold btw
 go_enter Tryz.func38,Tryz.ntmps38
 go_upto_region 1 with(fail)
 refine wp_cutB w (Bz) ?_
 rintro W1 hW z2 hL
 refine wp_regS 7 9 hW hL ?_
 iterate 3 refine dA ?_
 iterate 2 refine gA ?_
 refine pA ?_
 refine dA ?_
 clear hW hL
 rintro W3 hW z4 hL
 simp only[ndR]
 intros
 repeat (rename GDet _ _ _ _=>hgd;clear hgd)
 simp only[ndS]
 refine wpList_nil ?_
 obtain⟨-⟩:=hL
 go_wp2
 refine bodyPost_ret (by simp[results,Tryz.results38,go_sem]) rfl ⟨rfl,by exact belowAny⟩
theorem width_pos (s:ByteArray) (pos:Nat) (h:pos<s.size):1<=(Utf8.decode s pos).2:=by
 by_cases ha:(s[pos]'h).toNat<128
 ·rw[decode_ascii s pos h ha]
  exact Nat.le_refl _
 ·exact(decode_high s pos h (by omega)).2
def nmRel (w:World) (s:ByteArray) (ok:Bool) (a':Act) (W:World):Prop:=
 Below w.heap.size w W/\∃pos f:Nat,(∃u:Nat->Value,a'= {tmps:= #[.string s,u 1,u 2,.bool ok,u 4,u 5,u 6,u 7,u 8,u 9,u 10,u 11,u 12,u 13,u 14,.pointer (some ⟨w.heap.size,0,none⟩),u 16,u 17,u 18,u 19,u 20,u 21,u 22],defers:= []})/\W.heap[w.heap.size]? =some (.stringIter s pos)/\s.size<=pos+f/\lettersB s f pos=lettersB s s.size 0
theorem c_recName (s:ByteArray) (w:World):Cb 36 #[.string s] w (.bool (nameB s)):=by
 go_enter Tryz.func36,Tryz.ntmps36
 go_upto_region 1 with(fail)
 refine wp_scope_straight (wp_seq ?_)
 refine wp_cutB w (Bz) ?_
 rintro W1 hW z2 hL
 refine wp_regS 9 23 hW hL ?_
 iterate 4 refine dA ?_
 iterate 3 refine gA ?_
 refine pA ?_
 refine dA ?_
 clear hW hL
 rintro W3 hW z4 hL
 simp only[ndR]
 intros
 repeat (rename GDet _ _ _ _=>hgd;clear hgd)
 simp only[ndS]
 refine wpList_nil ?_
 obtain⟨-⟩:=hL
 have hok:(decide (1<=(s.size:Int))&&decide ((s.size:Int)<=12))=decide (1<=s.size/\s.size<=12):=by
  rw[Bool.eq_iff_iff]
  simp only[Bool.and_eq_true,decide_eq_true_eq]
  omega
 rw[hok]
 obtain⟨ok,ho⟩:∃b,decide (1<=s.size/\s.size<=12)=b:=⟨_,rfl⟩
 rw[ho]
 replace ho:=Hd ho
 clear hok
 simp only[Exit.then]
 refine wp_seq (wp_label ?_)
 go_wp2
 refine wp_loop (nmRel W3 s ok) (fun _ W=>s.size-W.iterPos W3.heap.size) ?_ ?_
 ·unfold nmRel
  have hit:=World.iter_heap W3 s 0
  exact⟨(Below.refl _ _).alloc (Nat.le_refl _) _,0,s.size,frame_ex rfl,by simpa using hit,by omega,rfl⟩
 ·rintro a' W ⟨hW0,pos,f,⟨u,rfl⟩,hit,hf,hlet⟩
  have hz:=hW0.size
  have hlt:=(Array.getElem?_eq_some_iff.1 hit).1
  by_cases hp:pos<s.size
  ·have hnx:∀ty,(Instr.next (.pointer (some ⟨W3.heap.size,0,none⟩)) true ty).run Tryz.prog W=_:=fun ty=>Lib.run_next_any_at W W3.heap.size s pos ty hit hp
   have hwd:=width_pos s pos hp
   have hit2:=Lib.iterAt_heap W W3.heap.size s pos (pos+(Utf8.decode s pos).2) hit
   have hbw2:=Lib.below_iterAt hW0 (k:=W3.heap.size) (Nat.le_refl _) s (pos+(Utf8.decode s pos).2)
   obtain⟨f,rfl⟩:∃g,f=g+1:=⟨f-1,by omega⟩
   have hst:lettersB s (f+1) pos=(letterB (Utf8.decode s pos).1&&lettersB s f (pos+(Utf8.decode s pos).2)):=by simp[lettersB,hp]
   rw[hst] at hlet
   obtain⟨r,hr⟩:∃r,(Utf8.decode s pos).1=r:=⟨_,rfl⟩
   obtain⟨d,hd⟩:∃d,(Utf8.decode s pos).2=d:=⟨_,rfl⟩
   have hm:s.size-(pos+d)<s.size-W.iterPos W3.heap.size:=by
    simp only[World.iterPos,hit];omega
   rw[hd] at hit2 hbw2 hlet hwd
   rw[hr] at hlet
   simp only[hr,hd] at hnx
   obtain⟨W4,hW4⟩:∃W4,W.iterAt W3.heap.size s (pos+d)=W4:=⟨_,rfl⟩
   rw[hW4] at hit2 hbw2
   simp only[hW4] at hnx
   have cl:=fun W=>c_recLetter r W
   clear hst hr hd hW4 hit hlt
   replace hit2:=Hd hit2
   replace hm:=Hd hm
   cases hlb:letterB r with
   |true=>
    rw[hlb] at cl hlet
    replace cl:=Hd cl
    replace hlet:=Hd hlet
    clear hlb
    go_wp2_with fail
    refine(cl.out _).mono ?_
    rintro e w5 ⟨rfl,hb5⟩
    have hit5:=Hd ((hb5.block _ (Array.getElem?_eq_some_iff.1 hit2.out).1).trans hit2.out)
    go_wp2
    refine⟨?_,by simp only[World.iterPos,hit5.out];exact hm.out⟩
    unfold nmRel
    exact⟨hbw2.trans (hb5.mono hbw2.size),pos+d,f,frame_ex rfl,hit5.out,by omega,by rw[<-hlet.out];rfl⟩
   |false=>
    rw[hlb] at cl hlet
    replace cl:=Hd cl
    have hno:=Hd (show nameB s=false by unfold nameB;rw[<-hlet];simp)
    clear hlb hlet
    go_wp2_with fail
    refine(cl.out _).mono ?_
    rintro e w5 ⟨rfl,hb5⟩
    go_wp2
    simp only[Exit.noGoto]
    go_ret
    exact⟨by rw[hno.out];rfl,hW.trans ((hbw2.trans (hb5.mono hbw2.size)).mono hW.size)⟩
  ·have hnx:∀ty,(Instr.next (.pointer (some ⟨W3.heap.size,0,none⟩)) true ty).run Tryz.prog W=_:=fun ty=>Lib.run_next_end_at W W3.heap.size s pos ty hit hp
   have hall:=Hd (show nameB s=ok by
    unfold nameB
    rw[<-hlet,ho.out]
    cases f with
    |zero=>simp[lettersB]
    |succ f=>simp[lettersB,hp])
   clear hlet
   go_wp2
   simp only[Exit.noGoto]
   go_ret
   exact⟨by rw[hall.out];rfl,hW.trans (hW0.mono hW.size)⟩
theorem c_srNums (nm:ByteArray) (ep fl la sc:Int) (ps po:Option Addr) (ns cs no co:Nat) (w:World):
  Cb 75 #[.agg #[.string nm,.int .i64 ep,.int .i64 fl,.int .i64 la,.int .i64 sc,.slice ps ns cs,.slice po no co]] w (.bool (nameB nm&&btw ep 0 1099511627776&&btw sc (-40) 40&&btw fl 0 281474976710656&&btw la (-1) 281474976710656)):=by
 go_enter Tryz.func75,Tryz.ntmps75
 go_upto_region 1 with(fail)
 refine wp_cutB w (Bc w.heap.size #[.string nm,.int .i64 ep,.int .i64 fl,.int .i64 la,.int .i64 sc,.slice ps ns cs,.slice po no co] 26<|Bz) ?_
 rintro W1 hW z2 hL
 refine wp_regS 24 26 hW hL ?_
 iterate 2 refine dA ?_
 refine cA (fun W' hC=>c_recName nm W') ?_
 refine dA ?_
 iterate 2 refine gA ?_
 refine cG (fun hp hx W' hC=>c_srBtw ep 0 1099511627776 W') ?_
 refine pA ?_
 refine dA ?_
 iterate 2 refine gA ?_
 refine cG (fun hp hx W' hC=>c_srScl sc W') ?_
 refine pA ?_
 refine dA ?_
 iterate 2 refine gA ?_
 refine cG (fun hp hx W' hC=>c_srBtw fl 0 281474976710656 W') ?_
 refine pA ?_
 refine dA ?_
 iterate 2 refine gA ?_
 refine cG (fun hp hx W' hC=>c_srBtw la (-1) 281474976710656 W') ?_
 refine pA ?_
 refine dA ?_
 clear hW hL
 rintro W3 hW z4 hL
 simp only[ndR]
 intros
 repeat (rename GDet _ _ _ _=>hgd;clear hgd)
 simp only[ndS]
 refine wpList_nil ?_
 obtain⟨⟨b1,yb1,k1,f1⟩,-⟩:=hL
 go_wp2
 refine bodyPost_ret (by simp[results,Tryz.results75,go_sem,k1,f1,yb1]) rfl ⟨rfl,by exact belowAny⟩
theorem scheck_no (K A R n d E:Int) (p q:Option Addr) (len cap m vc:Nat) (w:World)
  (c1:∀W,Below w.heap.size w W->Cb 103 #[.agg #[.int .i64 K,.slice p len cap,.int .i64 A,.int .i64 R,.int .i64 n,.int .i64 d,.slice q m vc,.int .i64 E]] W (.bool false)):
  Cb 108 #[.agg #[.int .i64 K,.slice p len cap,.int .i64 A,.int .i64 R,.int .i64 n,.int .i64 d,.slice q m vc,.int .i64 E]] w (.int .i64 210):=by
 have H_c1:=Hd c1
 clear c1
 go_enter Tryz.func108,Tryz.ntmps108
 go_upto_region 1 with(fail)
 refine wp_cutB w (Bc w.heap.size #[.int .i64 K,.slice p len cap,.int .i64 A,.int .i64 R,.int .i64 n,.int .i64 d,.slice q m vc,.int .i64 E] 49<|Bz) ?_
 rintro W1 hW z2 ⟨⟨b1,yb1,k1,f1⟩,-⟩
 go_wp2_with fail
 refine(H_c1.out _ (belowAny)).mono ?_
 rintro e w3 ⟨rfl,hb3⟩
 have z4:=hb3.size
 try simp at z4
 clear k1 f1
 refine haveB w w3 (Bc w.heap.size #[.int .i64 K,.slice p len cap,.int .i64 A,.int .i64 R,.int .i64 n,.int .i64 d,.slice q m vc,.int .i64 E] 49<|Bz) ?_
 clear b1 hW
 rintro hW z5 ⟨⟨b1,yb1,k1,f1⟩,-⟩
 clear hb3
 go_wp2
 refine bodyPost_ret (by simp[results,Tryz.results108,go_sem,k1,f1,yb1]) rfl ⟨rfl,by exact belowAny⟩
theorem scheck_yes (K A R n d E:Int) (p q:Option Addr) (len cap m vc:Nat) (w:World)
  (c1:∀W,Below w.heap.size w W->Cb 103 #[.agg #[.int .i64 K,.slice p len cap,.int .i64 A,.int .i64 R,.int .i64 n,.int .i64 d,.slice q m vc,.int .i64 E]] W (.bool true)):
  Cb 108 #[.agg #[.int .i64 K,.slice p len cap,.int .i64 A,.int .i64 R,.int .i64 n,.int .i64 d,.slice q m vc,.int .i64 E]] w (.int .i64 0):=by
 have H_c1:=Hd c1
 clear c1
 go_enter Tryz.func108,Tryz.ntmps108
 go_upto_region 1 with(fail)
 refine wp_cutB w (Bc w.heap.size #[.int .i64 K,.slice p len cap,.int .i64 A,.int .i64 R,.int .i64 n,.int .i64 d,.slice q m vc,.int .i64 E] 49<|Bz) ?_
 rintro W1 hW z2 ⟨⟨b1,yb1,k1,f1⟩,-⟩
 go_wp2_with fail
 refine(H_c1.out _ (belowAny)).mono ?_
 rintro e w3 ⟨rfl,hb3⟩
 have z4:=hb3.size
 try simp at z4
 clear k1 f1
 refine haveB w w3 (Bc w.heap.size #[.int .i64 K,.slice p len cap,.int .i64 A,.int .i64 R,.int .i64 n,.int .i64 d,.slice q m vc,.int .i64 E] 49<|Bz) ?_
 clear b1 hW
 rintro hW z5 ⟨⟨b1,yb1,k1,f1⟩,-⟩
 clear hb3
 go_wp2
 refine bodyPost_ret (by simp[results,Tryz.results108,go_sem,k1,f1,yb1]) rfl ⟨rfl,by exact belowAny⟩
theorem c_segCheckYes (s:SegT) (p q:Option Addr) (cap vc:Nat) (w:World) (h:SegIn w s p q) (hs:segB s=true):
  Cb 108 #[.agg (segA s p q cap vc)] w (.int .i64 0):=
 scheck_yes _ _ _ _ _ _ p q _ cap _ vc w (fun W hW=>by have:=c_segIs s p q cap vc W (h.below hW);rw[hs] at this;exact this)
theorem c_segCheckNo (s:SegT) (p q:Option Addr) (cap vc:Nat) (w:World) (h:SegIn w s p q) (hs:segB s=false):
  Cb 108 #[.agg (segA s p q cap vc)] w (.int .i64 210):=
 scheck_no _ _ _ _ _ _ p q _ cap _ vc w (fun W hW=>by have:=c_segIs s p q cap vc W (h.below hW);rw[hs] at this;exact this)
end Go.Proofs.YtpdhdjlhicceoaaGreatDoor
namespace Go.Proofs.YtpdhdjlhicceoaaGreatDoor
open Go.RowKit Go.Shelf
attribute [local go_sem] Oper.semAt_some
def okZ (z:(Int×Int)×(Int×Int)):Bool:=(z.2.1==z.1.1)&&isBack z.2.2
def farStep (f:Int) (z:(Int×Int)×(Int×Int)):Int:=mx (mx f (wrap64 (z.2.2-z.1.2))) (wrap64 (z.1.2-z.2.2))
def farOf (l:List ((Int×Int)×(Int×Int))):Int:=l.foldl farStep 0
structure KF (B0 n₀:Nat) (A B:World):Prop where
 below:Below B0 A B
 rest:∀(b:Nat) (cs:Array Value) (t:TypeId) (f:Nat×Nat),n₀<=b->A.heap[b]? =some (.cells cs t f)->B.heap[b]? =some (.cells cs t f)
theorem KF.refl (B0 n₀:Nat) (A:World):KF B0 n₀ A A:=⟨Below.refl _ _,fun _ _ _ _ _ h=>h⟩
theorem KF.trans {B0 n₀:Nat} {A B C:World} (h:KF B0 n₀ A B) (k:KF B0 n₀ B C):KF B0 n₀ A C:=⟨h.below.trans k.below,fun b cs t f hb ha=>k.rest b cs t f hb (h.rest b cs t f hb ha)⟩
theorem KF.alloc {B0 n₀:Nat} {A B:World} (h:KF B0 n₀ A B) (hB:B0<=B.heap.size) (o:Obj):KF B0 n₀ A (B.alloc o):=⟨h.below.alloc hB o,fun b cs t f hb ha=>(Below.heap_alloc B o b (lt_of_heap (h.rest b cs t f hb ha))).trans (h.rest b cs t f hb ha)⟩
theorem KF.set {B0 n₀:Nat} {A B:World} (h:KF B0 n₀ A B) {g i:Nat} (h1:B0<=g) (h2:g<n₀) (v:Value):KF B0 n₀ A (B.setCell ⟨g,i,none⟩ v):=⟨h.below.setCell (p:=⟨g,i,none⟩) h1 v,fun b cs t f hb ha=>(Below.heap_setCell B ⟨g,i,none⟩ v b (by simp;omega)).trans (h.rest b cs t f hb ha)⟩
theorem KF.calls {B0 n₀:Nat} {A B C:World} (h:KF B0 n₀ A B) (hb:Below B.heap.size B C) (hB:B0<=B.heap.size):KF B0 n₀ A C:=⟨h.below.trans (hb.mono hB),fun b cs t f hn ha=>(hb.block b (lt_of_heap (h.rest b cs t f hn ha))).trans (h.rest b cs t f hn ha)⟩
theorem KF.putObj {B0 n₀:Nat} {w:World} (hB:B0<=w.heap.size) (W:World) (l:Nat) (o o':Obj) (hl:w.heap.size<=l) (h:W.heap[l]? =some o) (h1:o.isCells=false) (h2:o.isWalk=false):KF B0 n₀ W (W.putObj l o'):=
 ⟨belowK_b hB W l o o' hl h h1 h2,fun b cs t f _ ha=>keepsT_putObj o' h h1 b cs f ha⟩
theorem KeepsOthers.calls {A B C:World} (h:KeepsOthers A B) (hb:Below B.heap.size B C):KeepsOthers A C:=⟨Nat.le_trans h.size hb.size,fun k o hk ho=>by
 have e:=h.same k o hk ho
 exact(hb.block k (lt_of_heap (e))).trans e⟩
def farR (s:SegT) (pts:List (Int×Int)):Int×Int:=if pts.length=(ptsL s).length then (if ((ptsL s).zip pts).all okZ then (farOf ((ptsL s).zip pts),0) else (0,2)) else (0,2)
def FarOut (s:SegT) (pts:List (Int×Int)) (w:World) (e:Ending) (w':World):Prop:=e= .returned (.tuple #[.int .i64 (farR s pts).1,.int .i64 (farR s pts).2])/\Below w.heap.size w w'
theorem keepsAny {A B:World} (h:KeepsOthers A B:=by repeat (first|with_reducible (exact KeepsOthers.refl _)|with_reducible (refine KeepsOthers.trans ?_ (KeepsOthers.setCell _ _ _))|with_reducible (refine KeepsOthers.trans ?_ (KeepsOthers.alloc _ _))|with_reducible (refine KeepsOthers.calls ?_ (by assumption)))):KeepsOthers A B:=h
theorem kfAny {B0 n₀:Nat} {A B:World} (h:KF B0 n₀ A B:=by repeat (first|with_reducible (exact KF.refl _ _ _)|with_reducible (refine KF.set ?_ (by omega) (by omega) _)|with_reducible (refine KF.alloc ?_ (by omega) _)|with_reducible (refine KF.calls ?_ (by assumption) (by first|omega|(simp;omega))))):KF B0 n₀ A B:=h
end Go.Proofs.YtpdhdjlhicceoaaGreatDoor
