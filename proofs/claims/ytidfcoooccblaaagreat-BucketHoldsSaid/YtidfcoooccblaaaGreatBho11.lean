/- Parts of the proof that follows. No condition. -/
import Derived.Lib.OthersKept
import Derived.Lib.RuneBytes
import Derived.Test.YtidfcoooccblaaaGreatBho10
set_option maxRecDepth 100000
set_option maxHeartbeats 8000000
set_option linter.unusedSimpArgs false
set_option linter.unusedVariables false
namespace Go.Proofs.YtidfcoooccblaaaGreat
open Go.RowKit
def Qf (i:Nat) (S:Int):Int:=if 1<=i then S else 0
def Qe (i:Nat) (S:Int):Int:=if 2<=i then S else 0
theorem c_spBoth (w:World):Calls Tryz.prog 93 #[] w fun e w'=>e= .returned (.slice (some ⟨w.heap.size,0,none⟩) 2 2)/\Below w.heap.size w w'/\Blk w' w.heap.size #[.func (.func 148) #[] #[],.func (.func 149) #[] #[]] 173:=by
 go_enter Tryz.func93,Tryz.ntmps93
 go_wp2
 go_ret
 exact⟨rfl,Aa,Blk.new' rfl⟩
def Sc (f:Bool) (S1 S2:Int):Array Value:=if f=true then #[S1,S2] else #[.int .i64 0,.int .i64 0]
def plusE (f:Bool):Int:=if f=true then 0 else 5
def Vx (w:World) (p:Option Addr) (len cap:Nat) (S1 S2:Int) (fa fb:Bool) (g h:Nat) (a':Act) (W:World):Prop:=
 Below w.heap.size w W/\Blk W w.heap.size #[.int .i64 0,.int .i64 0] 33/\Blk W h #[.func (.func 148) #[] #[],.func (.func 149) #[] #[]] 173/\∃i:Nat,Blk W g #[.int .i64 (Qf i S1),.int .i64 (Qe i S2)] 169/\(∃u:Nat->Value,a'= {tmps:= #[.slice p len cap,u 1,.pointer (some ⟨w.heap.size,0,none⟩),u 3,u 4,.pointer (some ⟨g,0,none⟩),u 6,u 7,u 8,u 9,u 10,u 11,u 12,u 13,u 14,u 15,u 16,.slice (some ⟨h,0,none⟩) 2 2,.int .i64 2,.int .i64 (i:Int),u 20,u 21,u 22,u 23,u 24,u 25,u 26,u 27,u 28,u 29,u 30,u 31,u 32,u 33,u 34,u 35,u 36,u 37,u 38,u 39,u 40,u 41,u 42,u 43],defers:= []})/\i<=2/\(1<=i->fa=true)/\(2<=i->fb=true)
theorem Za (p:Option Addr) (len cap:Nat) (S1 S2:Int) (fa fb:Bool) (w:World) (hle:fa=true->fb=true->S1<=S2)
  (c1:∀W,Below w.heap.size w W->Cb 92 #[.slice p len cap] W (.int .i64 0))
  (c2:∀W,Below w.heap.size w W->Cb 94 #[.slice p len cap,.func (.func 148) #[] #[]] W (.tuple #[S1,.bool fa]))
  (c3:∀W,Below w.heap.size w W->Cb 94 #[.slice p len cap,.func (.func 149) #[] #[]] W (.tuple #[S2,.bool fb])):
  Cb 45 #[.slice p len cap] w (.tuple #[.agg (Sc (fa&&fb) S1 S2),.int .i64 (plusE (fa&&fb))]):=by
 replace c2:=Hd c2
 replace c3:=Hd c3
 have H_c1:=Hd c1
 clear c1
 go_enter Tryz.func45,Tryz.ntmps45
 go_upto_region 1 with(fail)
 refine wp_scope_straight ?_
 go_wp2_with fail
 refine(H_c1.out _ Aa).mono ?_
 rintro e w1 ⟨rfl,hb1⟩
 have z2:=hb1.size
 try simp at z2
 refine Ad w w1 (Bc w.heap.size #[.int .i64 0,.int .i64 0] 33<|Bz) ?_
 rintro hW z3 ⟨⟨b1,yb1,k1,f1⟩,-⟩
 clear hb1
 clear H_c1
 have hWW:=hW
 go_wp2
 refine wp_label ?_
 simp only[Exit.then]
 go_wp2_with fail
 refine(c_spBoth _).mono ?_
 rintro e w9 ⟨rfl,hb9,b9⟩
 have d1:Blk w9 w.heap.size #[.int .i64 0,.int .i64 0] 33:=Ab
 have d2:Blk w9 w1.heap.size #[.int .i64 0,.int .i64 0] 169:=Ab
 have d3:Blk w9 (w1.heap.size+1) #[.func (.func 148) #[] #[],.func (.func 149) #[] #[]] 173:=(by simpa using b9)
 have hW9:Below w.heap.size w w9:=Aa
 simp only[World.size_alloc]
 clear b1 b9 hb9 k1 f1 hW
 have y3:=d3.lt
 have k3:=d3.cell
 go_wp2
 clear k3
 refine wp_loop (Vx w p len cap S1 S2 fa fb w1.heap.size (w1.heap.size+1)) (fun a' _=>2-(Aq (a'.tmps.getD 19 undef)).toNat) ?_ ?_
 ·unfold Vx
  exact⟨hW9,d1,d3,0,d2,Ag rfl,by omega,fun h=>by omega,fun h=>by omega⟩
 have hg1:=hWW.size
 have hg2:w.heap.size<w1.heap.size:=by omega
 obtain⟨g,hg⟩:∃g,w1.heap.size=g:=⟨_,rfl⟩
 rw[hg] at hg2⊢
 clear hg d1 d2 d3 hW9 y3 hWW hg1
 rintro a' W ⟨hW0,b1,b3,i,b2,⟨u,rfl⟩,hi',hfa,hfb⟩
 have hz:=hW0.size
 have zb1:=b1.lt
 have zb2:=b2.lt
 have zb3:=b3.lt
 have c2:=Hd (c2.out W hW0)
 have c3:=Hd (c3.out W hW0)
 have hi3:i=0∨i=1∨i=2:=by omega
 rcases hi3 with rfl|rfl|rfl
 ·replace b2:Blk W g #[.int .i64 0,.int .i64 0] 169:=by simpa [Qf,Qe] using b2
  cases fa with
  |true=>
   have k1:=b1.cell
   have f1:=b1.frozen
   have k2:=b2.cell
   have f2:=b2.frozen
   have k3:=b3.cell
   have f3:=b3.frozen
   go_wp2_with fail
   refine(c2.out).mono ?_
   rintro e w21 ⟨rfl,hb21⟩
   have z22:=hb21.size
   try simp at z22
   clear k1 f1 k2 f2 k3 f3
   refine Ad W w21 (Bc w.heap.size #[.int .i64 0,.int .i64 0] 33<|Bc g #[.int .i64 0,.int .i64 0] 169<|Bc (g+1) #[.func (.func 148) #[] #[],.func (.func 149) #[] #[]] 173<|Bz) ?_
   clear b1 b2 b3
   rintro hW z23 ⟨⟨b1,yb1,k1,f1⟩,⟨b2,yb2,k2,f2⟩,⟨b3,yb3,k3,f3⟩,-⟩
   clear hb21
   go_wp2
   refine⟨?_,by simp[Aq]⟩
   unfold Vx
   exact⟨hW0.trans ((hW.mono hz).setCell (by simp;omega) _),Ab,Ab,1,(Ab:Blk _ g #[S1,.int .i64 0] 169),Ag rfl,by omega,fun _=>rfl,fun h=>by omega⟩
  |false=>
   have k1:=b1.cell
   have f1:=b1.frozen
   have k2:=b2.cell
   have f2:=b2.frozen
   have k3:=b3.cell
   have f3:=b3.frozen
   go_wp2_with fail
   refine(c2.out).mono ?_
   rintro e w21 ⟨rfl,hb21⟩
   have z22:=hb21.size
   try simp at z22
   clear k1 f1 k2 f2 k3 f3
   refine Ad W w21 (Bc w.heap.size #[.int .i64 0,.int .i64 0] 33<|Bc g #[.int .i64 0,.int .i64 0] 169<|Bc (g+1) #[.func (.func 148) #[] #[],.func (.func 149) #[] #[]] 173<|Bz) ?_
   clear b1 b2 b3
   rintro hW z23 ⟨⟨b1,yb1,k1,f1⟩,⟨b2,yb2,k2,f2⟩,⟨b3,yb3,k3,f3⟩,-⟩
   clear hb21
   have hB8:=hW0.trans (hW.mono hz)
   clear hW
   go_wp2_with fail
   refine(Jj 9223372036854775807 (-9223372036854775808) _).mono ?_
   rintro e w31 ⟨rfl,hb31⟩
   have d1:Blk w31 w.heap.size #[.int .i64 0,.int .i64 0] 33:=Ab
   have hW31:Below w.heap.size w w31:=Aa
   have z31:=hW31.size
   have zd:=d1.lt
   clear hB8 hb31 b1 b2 b3 k1 f1 k2 f2 k3 f3
   have k1:=d1.cell
   have f1:=d1.frozen
   have cz:=Hd (show∀W,Cb 96 #[.agg #[.int .i64 9223372036854775807,.int .i64 (-9223372036854775808)]] W (.int .i64 140) from fun W=>by have:=Ex 9223372036854775807 (-9223372036854775808) W;unfold spE at this;rw[if_neg (by first|assumption|omega)] at this;exact this)
   go_wp2_with fail
   refine(cz.out _).mono ?_
   rintro e w32 ⟨rfl,hb32⟩
   have e1:Blk w32 w.heap.size #[.int .i64 0,.int .i64 0] 33:=Ab
   have e2:Blk w32 w31.heap.size #[.int .i64 9223372036854775807,.int .i64 (-9223372036854775808)] 33:=Ab
   have hW32:Below w.heap.size w w32:=Aa
   have z32:=hW32.size
   have ze:=e1.lt
   have ze2:=e2.lt
   clear cz d1 hW31 hb32 k1 f1
   have k1:=e1.cell
   have f1:=e1.frozen
   have k2:=e2.cell
   go_wp2
   simp only[Exit.noGoto]
   refine bodyPost_ret (v:= .tuple #[.agg #[.int .i64 0,.int .i64 0],.int .i64 5]) (by simp[results,Tryz.results45,go_sem,k1,f1,ze]) rfl ⟨rfl,by exact Aa⟩
 ·replace b2:Blk W g #[S1,.int .i64 0] 169:=by simpa [Qf,Qe] using b2
  cases fb with
  |true=>
   have k1:=b1.cell
   have f1:=b1.frozen
   have k2:=b2.cell
   have f2:=b2.frozen
   have k3:=b3.cell
   have f3:=b3.frozen
   go_wp2_with fail
   refine(c3.out).mono ?_
   rintro e w21 ⟨rfl,hb21⟩
   have z22:=hb21.size
   try simp at z22
   clear k1 f1 k2 f2 k3 f3
   refine Ad W w21 (Bc w.heap.size #[.int .i64 0,.int .i64 0] 33<|Bc g #[S1,.int .i64 0] 169<|Bc (g+1) #[.func (.func 148) #[] #[],.func (.func 149) #[] #[]] 173<|Bz) ?_
   clear b1 b2 b3
   rintro hW z23 ⟨⟨b1,yb1,k1,f1⟩,⟨b2,yb2,k2,f2⟩,⟨b3,yb3,k3,f3⟩,-⟩
   clear hb21
   go_wp2
   refine⟨?_,by simp[Aq]⟩
   unfold Vx
   exact⟨hW0.trans ((hW.mono hz).setCell (by simp;omega) _),Ab,Ab,2,(Ab:Blk _ g #[S1,S2] 169),Ag rfl,by omega,fun _=>hfa (Nat.le_refl _),fun _=>rfl⟩
  |false=>
   have k1:=b1.cell
   have f1:=b1.frozen
   have k2:=b2.cell
   have f2:=b2.frozen
   have k3:=b3.cell
   have f3:=b3.frozen
   go_wp2_with fail
   refine(c3.out).mono ?_
   rintro e w21 ⟨rfl,hb21⟩
   have z22:=hb21.size
   try simp at z22
   clear k1 f1 k2 f2 k3 f3
   refine Ad W w21 (Bc w.heap.size #[.int .i64 0,.int .i64 0] 33<|Bc g #[S1,.int .i64 0] 169<|Bc (g+1) #[.func (.func 148) #[] #[],.func (.func 149) #[] #[]] 173<|Bz) ?_
   clear b1 b2 b3
   rintro hW z23 ⟨⟨b1,yb1,k1,f1⟩,⟨b2,yb2,k2,f2⟩,⟨b3,yb3,k3,f3⟩,-⟩
   clear hb21
   have hB8:=hW0.trans (hW.mono hz)
   clear hW
   go_wp2_with fail
   refine(Jj 9223372036854775807 (-9223372036854775808) _).mono ?_
   rintro e w31 ⟨rfl,hb31⟩
   have d1:Blk w31 w.heap.size #[.int .i64 0,.int .i64 0] 33:=Ab
   have hW31:Below w.heap.size w w31:=Aa
   have z31:=hW31.size
   have zd:=d1.lt
   clear hB8 hb31 b1 b2 b3 k1 f1 k2 f2 k3 f3
   have k1:=d1.cell
   have f1:=d1.frozen
   have cz:=Hd (show∀W,Cb 96 #[.agg #[.int .i64 9223372036854775807,.int .i64 (-9223372036854775808)]] W (.int .i64 140) from fun W=>by have:=Ex 9223372036854775807 (-9223372036854775808) W;unfold spE at this;rw[if_neg (by first|assumption|omega)] at this;exact this)
   go_wp2_with fail
   refine(cz.out _).mono ?_
   rintro e w32 ⟨rfl,hb32⟩
   have e1:Blk w32 w.heap.size #[.int .i64 0,.int .i64 0] 33:=Ab
   have e2:Blk w32 w31.heap.size #[.int .i64 9223372036854775807,.int .i64 (-9223372036854775808)] 33:=Ab
   have hW32:Below w.heap.size w w32:=Aa
   have z32:=hW32.size
   have ze:=e1.lt
   have ze2:=e2.lt
   clear cz d1 hW31 hb32 k1 f1
   have k1:=e1.cell
   have f1:=e1.frozen
   have k2:=e2.cell
   go_wp2
   simp only[Exit.noGoto]
   refine bodyPost_ret (v:= .tuple #[.agg #[.int .i64 0,.int .i64 0],.int .i64 5]) (by simp[results,Tryz.results45,go_sem,k1,f1,ze]) rfl ⟨by rw[Bool.and_false];rfl,by exact Aa⟩
 ·replace b2:Blk W g #[S1,S2] 169:=by simpa [Qf,Qe] using b2
  obtain rfl:=hfa (by omega)
  obtain rfl:=hfb (by omega)
  replace hle:=hle rfl rfl
  have k1:=b1.cell
  have f1:=b1.frozen
  have k2:=b2.cell
  have f2:=b2.frozen
  have k3:=b3.cell
  have f3:=b3.frozen
  have hB8:=hW0
  clear hW0
  go_wp2_with fail
  refine(Jj S1 S2 _).mono ?_
  rintro e w31 ⟨rfl,hb31⟩
  have d1:Blk w31 w.heap.size #[.int .i64 0,.int .i64 0] 33:=Ab
  have hW31:Below w.heap.size w w31:=Aa
  have z31:=hW31.size
  have zd:=d1.lt
  clear hB8 hb31 b1 b2 b3 k1 f1 k2 f2 k3 f3
  have k1:=d1.cell
  have f1:=d1.frozen
  have cz:=Hd (show∀W,Cb 96 #[.agg #[S1,S2]] W (.int .i64 0) from fun W=>by have:=Ex S1 S2 W;unfold spE at this;rw[if_pos (by first|assumption|omega)] at this;exact this)
  go_wp2_with fail
  refine(cz.out _).mono ?_
  rintro e w32 ⟨rfl,hb32⟩
  have e1:Blk w32 w.heap.size #[.int .i64 0,.int .i64 0] 33:=Ab
  have e2:Blk w32 w31.heap.size #[S1,S2] 33:=Ab
  have hW32:Below w.heap.size w w32:=Aa
  have z32:=hW32.size
  have ze:=e1.lt
  have ze2:=e2.lt
  clear cz d1 hW31 hb32 k1 f1
  have k1:=e1.cell
  have f1:=e1.frozen
  have k2:=e2.cell
  go_wp2
  simp only[Exit.noGoto]
  refine bodyPost_ret (v:= .tuple #[.agg #[S1,S2],.int .i64 0]) (by simp[results,Tryz.results45,go_sem,k1,f1,ze]) rfl ⟨rfl,by exact Aa⟩
def spA (l:List (Int×Int)):Int:=Ak (l.map (·.1))
def spB (l:List (Int×Int)):Int:=Ak (l.map (·.2))
theorem Zb :∀ {l:List (Int×Int)},l.all (fun x=>decide (x.1<=x.2))=true->spA l<=spB l
 | [],_=>Int.le_refl _
 |x::l,h=>by
  simp only[List.all_cons,Bool.and_eq_true,decide_eq_true_eq] at h
  have:=Zb h.2
  unfold spA spB at*
  simp only[List.map_cons,Ak]
  omega
theorem Kt {n:Int}:inI n=true↔-9223372036854775808<=n/\n<=9223372036854775807:=by unfold inI;rw[decide_eq_true_eq];rfl
theorem K0 {n:Int} (h:inI n=true):wrap64 n=n:=by
 have:=Kt.1 h
 rw[Ah]
 omega
theorem c_spPlus (p:Option Addr) (cap:Nat) (l:List (Int×Int)) (w:World) (hlen:l.length<=1000000) (h:A5 w p l) (hv:∀x,x∈l->I64 x.1/\I64 x.2) (hall:l.all (fun x=>decide (x.1<=x.2))=true):
  Cb 45 #[.slice p l.length cap] w (.tuple #[.agg (Sc (inI (spA l)&&inI (spB l)) (spA l) (spB l)),.int .i64 (plusE (inI (spA l)&&inI (spB l)))]):=by
 have hs:Nt l=0:=by unfold Nt;rw[hall];rfl
 have key:=Za p l.length cap (wrap64 (spA l)) (wrap64 (spB l)) (inI (spA l)) (inI (spB l)) w (fun h1 h2=>by rw[K0 h1,K0 h2];exact Zb hall)
  (fun W hW=>by have:=Jk p cap l W hlen (h.below hW);rw[hs] at this;exact this) (fun W hW=>c_spTot1 p cap l W hlen (h.below hW) hv) (fun W hW=>c_spTot2 p cap l W hlen (h.below hW) hv)
 have e:Sc (inI (spA l)&&inI (spB l)) (wrap64 (spA l)) (wrap64 (spB l))=Sc (inI (spA l)&&inI (spB l)) (spA l) (spB l):=by
  unfold Sc
  split
  ·rename_i hh
   rw[Bool.and_eq_true] at hh
   rw[K0 hh.1,K0 hh.2]
  ·rfl
 rw[e] at key
 exact key
theorem X7 (v:Int) (w:World):Cb 207 #[v] w (.agg #[v,v]):=by
 go_enter Tryz.func207,Tryz.ntmps207
 go_wp2
 refine bodyPost_ret (v:= .agg #[v,v]) (by simp[results,Tryz.results207,go_sem]) rfl ⟨rfl,by exact Aa⟩
theorem around_w (v far:Int) (w:World) (h0:0<=far) (E1:Hid (wrap64 (-far)= -far))
  (c2:∀W g,A5 W (some ⟨g,0,none⟩) [(v,v),(-far,far)]->Cb 45 #[.slice (some ⟨g,0,none⟩) 2 2] W (.tuple #[.agg #[.int .i64 (v-far),.int .i64 (v+far)],.int .i64 0])):
  Cb 185 #[v,far] w (.tuple #[.agg #[.int .i64 (v-far),.int .i64 (v+far)],.int .i64 0]):=by
 have H_c2:=Hd c2
 clear c2
 go_enter Tryz.func185,Tryz.ntmps185
 go_wp2_with fail
 refine(X7 v _).mono ?_
 rintro e w1 ⟨rfl,hb1⟩
 have z2:=hb1.size
 try simp at z2
 refine Ad w w1 (Bc w.heap.size #[.int .i64 0,.int .i64 0] 33<|Bz) ?_
 rintro hW z3 ⟨⟨b1,yb1,k1,f1⟩,-⟩
 clear hb1
 have c2:=H_c2.out
 go_wp2_with fail
 have p9:Blk (w1.alloc (.cells #[v,v,.int .i64 (wrap64 (-far)),far] 33)) w1.heap.size #[v,v,.int .i64 (wrap64 (-far)),far] 33:=Blk.new' rfl
 rw[E1.out] at p9⊢
 refine(c2 _ w1.heap.size (Kn (n:=4) (l:= [(v,v),(-far,far)]) p9 rfl)).mono ?_
 rintro e w9 ⟨rfl,hb9⟩
 have d1:Blk w9 w.heap.size #[.int .i64 0,.int .i64 0] 33:=Ab
 have hW9:Below w.heap.size w w9:=Aa
 clear c2 p9 hb9 hW b1 k1 f1
 have k1:=d1.cell
 have f1:=d1.frozen
 have y1:=d1.lt
 go_wp2
 refine bodyPost_ret (v:= .tuple #[.agg #[.int .i64 (v-far),.int .i64 (v+far)],.int .i64 0]) (by simp[results,Tryz.results185,go_sem,k1,f1,y1]) rfl ⟨rfl,by exact Aa⟩
theorem U3 (v far:Int) (w:World) (h0:0<=far) (h1:far<=1099511627776) (h2: -4611686018427387904<=v) (h3:v<=4611686018427387904):
  Cb 185 #[v,far] w (.tuple #[.agg #[.int .i64 (v-far),.int .i64 (v+far)],.int .i64 0]):=by
 refine around_w v far w h0 (Hd (by rw[Ah];omega)) fun W g hp=> ?_
 have hA:spA [(v,v),(-far,far)]=v-far:=by simp[spA,Ak];omega
 have hB:spB [(v,v),(-far,far)]=v+far:=by simp[spB,Ak]
 have i1:inI (v-far)=true:=Kt.2 (by omega)
 have i2:inI (v+far)=true:=Kt.2 (by omega)
 have key:=c_spPlus (some ⟨g,0,none⟩) 2 [(v,v),(-far,far)] W (by simp) hp (fun x hx=>by simp at hx;rcases hx with rfl|rfl<;>simp only[I64]<;>omega) (by simp;omega)
 rw[hA,hB,i1,i2] at key
 exact key
theorem Vf (v far:Int) (w:World)
  (c2:∀W,Below w.heap.size w W->Cb 185 #[v,far] W (.tuple #[.agg #[.int .i64 (v-far),.int .i64 (v+far)],.int .i64 0])):
  Cb 156 #[v,far] w (.agg #[.int .i64 (v-far),.int .i64 (v+far)]):=by
 have H_c2:=Hd c2
 clear c2
 go_enter Tryz.func156,Tryz.ntmps156
 go_wp2_with fail
 refine(H_c2.out _ Aa).mono ?_
 rintro e w1 ⟨rfl,hb1⟩
 have z2:=hb1.size
 try simp at z2
 refine Ad w w1 (Bc w.heap.size #[.int .i64 0,.int .i64 0] 33<|Bz) ?_
 rintro hW z3 ⟨⟨b1,yb1,k1,f1⟩,-⟩
 clear hb1
 go_wp2
 refine bodyPost_ret (by simp[results,Tryz.results156,go_sem,k1,f1,yb1]) rfl ⟨rfl,by exact Aa⟩
theorem Ol (v far:Int) (w:World) (h0:0<=far) (h1:far<=1099511627776) (h2: -4611686018427387904<=v) (h3:v<=4611686018427387904):
  Cb 156 #[v,far] w (.agg #[.int .i64 (v-far),.int .i64 (v+far)]):=
 Vf v far w fun W _=>U3 v far W h0 h1 h2 h3
theorem S4 (r:Nat) (w:World):Cb 161 #[.int .i32 r] w (.bool (Lf r)):=by
 go_enter Tryz.func161,Tryz.ntmps161
 go_upto_region 1 with(fail)
 refine Ac w (Bz) ?_
 rintro W1 hW z2 hL
 refine Ci 15 17 hW hL ?_
 iterate 3 refine dA ?_
 iterate 2 refine gA ?_
 refine pA ?_
 refine dA ?_
 iterate 3 refine gA ?_
 iterate 2 refine gB ?_
 refine pgA ?_
 refine pO ?_
 refine dA ?_
 clear hW hL
 rintro W3 hW z4 hL
 simp only[ndR]
 intros
 repeat (rename Ap _ _ _ _=>hgd;clear hgd)
 simp only[ndS]
 refine wpList_nil ?_
 obtain⟨-⟩:=hL
 go_wp2
 refine bodyPost_ret (v:= .bool ((decide (97<=(r:Int))&&decide ((r:Int)<=122))||(decide (48<=(r:Int))&&decide ((r:Int)<=57)))) (by simp[results,Tryz.results161,go_sem]) rfl ⟨?_,by exact Aa⟩
 congr 2
 unfold Lf
 rw[Bool.eq_iff_iff]
 simp only[Bool.or_eq_true,Bool.and_eq_true,decide_eq_true_eq]
 omega
theorem Lm (n lo hi:Int) (w:World):Cb 55 #[n,lo,hi] w (.bool (btw n lo hi)):=by
 unfold btw
 go_enter Tryz.func55,Tryz.ntmps55
 go_upto_region 1 with(fail)
 refine Ac w (Bz) ?_
 rintro W1 hW z2 hL
 refine Ci 9 15 hW hL ?_
 iterate 4 refine dA ?_
 iterate 3 refine gA ?_
 refine pA ?_
 refine dA ?_
 clear hW hL
 rintro W3 hW z4 hL
 simp only[ndR]
 intros
 repeat (rename Ap _ _ _ _=>hgd;clear hgd)
 simp only[ndS]
 refine wpList_nil ?_
 obtain⟨-⟩:=hL
 go_wp2
 refine bodyPost_ret (by simp[results,Tryz.results55,go_sem]) rfl ⟨rfl,by exact Aa⟩
theorem c_srScl (n:Int) (w:World):Cb 109 #[n] w (.bool (btw n (-40) 40)):=by
 unfold btw
 go_enter Tryz.func109,Tryz.ntmps109
 go_upto_region 1 with(fail)
 refine Ac w (Bz) ?_
 rintro W1 hW z2 hL
 refine Ci 7 9 hW hL ?_
 iterate 3 refine dA ?_
 iterate 2 refine gA ?_
 refine pA ?_
 refine dA ?_
 clear hW hL
 rintro W3 hW z4 hL
 simp only[ndR]
 intros
 repeat (rename Ap _ _ _ _=>hgd;clear hgd)
 simp only[ndS]
 refine wpList_nil ?_
 obtain⟨-⟩:=hL
 go_wp2
 refine bodyPost_ret (by simp[results,Tryz.results109,go_sem]) rfl ⟨rfl,by exact Aa⟩
theorem Wg (s:ByteArray) (pos:Nat) (h:pos<s.size):1<=(Utf8.decode s pos).2:=by
 by_cases ha:(s[pos]'h).toNat<128
 ·rw[decode_ascii s pos h ha]
  exact Nat.le_refl _
 ·exact(decode_high s pos h (by omega)).2
def Z0 (w:World) (s:ByteArray) (ok:Bool) (a':Act) (W:World):Prop:=
 Below w.heap.size w W/\∃pos f:Nat,(∃u:Nat->Value,a'= {tmps:= #[.string s,u 1,u 2,.bool ok,u 4,u 5,u 6,u 7,u 8,u 9,u 10,u 11,u 12,u 13,u 14,.pointer (some ⟨w.heap.size,0,none⟩),u 16,u 17,u 18,u 19,u 20,u 21,u 22],defers:= []})/\W.heap[w.heap.size]? =some (.stringIter s pos)/\s.size<=pos+f/\Eh s f pos=Eh s s.size 0
theorem Yc (s:ByteArray) (w:World):Cb 108 #[.string s] w (.bool (Mo s)):=by
 go_enter Tryz.func108,Tryz.ntmps108
 go_upto_region 1 with(fail)
 refine wp_scope_straight (wp_seq ?_)
 refine Ac w (Bz) ?_
 rintro W1 hW z2 hL
 refine Ci 9 23 hW hL ?_
 iterate 4 refine dA ?_
 iterate 3 refine gA ?_
 refine pA ?_
 refine dA ?_
 clear hW hL
 rintro W3 hW z4 hL
 simp only[ndR]
 intros
 repeat (rename Ap _ _ _ _=>hgd;clear hgd)
 simp only[ndS]
 refine wpList_nil ?_
 obtain⟨-⟩:=hL
 have hok:(decide (1<=(s.size:Int))&&decide ((s.size:Int)<=12))=decide (1<=s.size/\s.size<=12):=by
  rw[Bool.eq_iff_iff]
  simp only[Bool.and_eq_true,decide_eq_true_eq]
  omega
 rw[hok]
 obtain⟨ok,ho⟩:∃b,decide (1<=s.size/\s.size<=12)=b:=⟨_,rfl⟩
 rw[ho]
 replace ho:=Hd ho
 clear hok
 simp only[Exit.then]
 refine wp_seq (wp_label ?_)
 go_wp2
 refine wp_loop (Z0 W3 s ok) (fun _ W=>s.size-W.iterPos W3.heap.size) ?_ ?_
 ·unfold Z0
  have hit:=World.iter_heap W3 s 0
  exact⟨(Below.refl _ _).alloc (Nat.le_refl _) _,0,s.size,Ag rfl,by simpa using hit,by omega,rfl⟩
 ·rintro a' W ⟨hW0,pos,f,⟨u,rfl⟩,hit,hf,hlet⟩
  have hz:=hW0.size
  have hlt:=(Array.getElem?_eq_some_iff.1 hit).1
  by_cases hp:pos<s.size
  ·have hnx:∀ty,(Instr.next (.pointer (some ⟨W3.heap.size,0,none⟩)) true ty).run Tryz.prog W=_:=fun ty=>Lib.run_next_any_at W W3.heap.size s pos ty hit hp
   have hwd:=Wg s pos hp
   have hit2:=Lib.iterAt_heap W W3.heap.size s pos (pos+(Utf8.decode s pos).2) hit
   have hbw2:=Lib.below_iterAt hW0 (k:=W3.heap.size) (Nat.le_refl _) s (pos+(Utf8.decode s pos).2)
   obtain⟨f,rfl⟩:∃g,f=g+1:=⟨f-1,by omega⟩
   have hst:Eh s (f+1) pos=(Lf (Utf8.decode s pos).1&&Eh s f (pos+(Utf8.decode s pos).2)):=by simp[Eh,hp]
   rw[hst] at hlet
   obtain⟨r,hr⟩:∃r,(Utf8.decode s pos).1=r:=⟨_,rfl⟩
   obtain⟨d,hd⟩:∃d,(Utf8.decode s pos).2=d:=⟨_,rfl⟩
   have hm:s.size-(pos+d)<s.size-W.iterPos W3.heap.size:=by
    simp only[World.iterPos,hit];omega
   rw[hd] at hit2 hbw2 hlet hwd
   rw[hr] at hlet
   simp only[hr,hd] at hnx
   obtain⟨W4,hW4⟩:∃W4,W.iterAt W3.heap.size s (pos+d)=W4:=⟨_,rfl⟩
   rw[hW4] at hit2 hbw2
   simp only[hW4] at hnx
   have cl:=fun W=>S4 r W
   clear hst hr hd hW4 hit hlt
   replace hit2:=Hd hit2
   replace hm:=Hd hm
   cases hlb:Lf r with
   |true=>
    rw[hlb] at cl hlet
    replace cl:=Hd cl
    replace hlet:=Hd hlet
    clear hlb
    go_wp2_with fail
    refine(cl.out _).mono ?_
    rintro e w5 ⟨rfl,hb5⟩
    have hit5:=Hd ((hb5.block _ (Array.getElem?_eq_some_iff.1 hit2.out).1).trans hit2.out)
    go_wp2
    refine⟨?_,by simp only[World.iterPos,hit5.out];exact hm.out⟩
    unfold Z0
    exact⟨hbw2.trans (hb5.mono hbw2.size),pos+d,f,Ag rfl,hit5.out,by omega,by rw[<-hlet.out];rfl⟩
   |false=>
    rw[hlb] at cl hlet
    replace cl:=Hd cl
    have hno:=Hd (show Mo s=false by unfold Mo;rw[<-hlet];simp)
    clear hlb hlet
    go_wp2_with fail
    refine(cl.out _).mono ?_
    rintro e w5 ⟨rfl,hb5⟩
    go_wp2
    simp only[Exit.noGoto]
    go_ret
    exact⟨by rw[hno.out];rfl,hW.trans ((hbw2.trans (hb5.mono hbw2.size)).mono hW.size)⟩
  ·have hnx:∀ty,(Instr.next (.pointer (some ⟨W3.heap.size,0,none⟩)) true ty).run Tryz.prog W=_:=fun ty=>Lib.run_next_end_at W W3.heap.size s pos ty hit hp
   have hall:=Hd (show Mo s=ok by
    unfold Mo
    rw[<-hlet,ho.out]
    cases f with
    |zero=>simp[Eh]
    |succ f=>simp[Eh,hp])
   clear hlet
   go_wp2
   simp only[Exit.noGoto]
   go_ret
   exact⟨by rw[hall.out];rfl,hW.trans (hW0.mono hW.size)⟩
theorem c_srNums (nm:ByteArray) (ep fl la sc:Int) (ps po:Option Addr) (ns cs no co:Nat) (w:World):
  Cb 52 #[.agg #[.string nm,ep,fl,la,sc,.slice ps ns cs,.slice po no co]] w (.bool (Mo nm&&btw ep 0 1099511627776&&btw sc (-40) 40&&btw fl 0 281474976710656&&btw la (-1) 281474976710656)):=by
 go_enter Tryz.func52,Tryz.ntmps52
 go_upto_region 1 with(fail)
 refine Ac w (Bc w.heap.size #[.string nm,ep,fl,la,sc,.slice ps ns cs,.slice po no co] 25<|Bz) ?_
 rintro W1 hW z2 hL
 refine Ci 24 26 hW hL ?_
 iterate 2 refine dA ?_
 refine cA (fun W' hC=>Yc nm W') ?_
 refine dA ?_
 iterate 2 refine gA ?_
 refine cG (fun hp hx W' hC=>Lm ep 0 1099511627776 W') ?_
 refine pA ?_
 refine dA ?_
 iterate 2 refine gA ?_
 refine cG (fun hp hx W' hC=>c_srScl sc W') ?_
 refine pA ?_
 refine dA ?_
 iterate 2 refine gA ?_
 refine cG (fun hp hx W' hC=>Lm fl 0 281474976710656 W') ?_
 refine pA ?_
 refine dA ?_
 iterate 2 refine gA ?_
 refine cG (fun hp hx W' hC=>Lm la (-1) 281474976710656 W') ?_
 refine pA ?_
 refine dA ?_
 clear hW hL
 rintro W3 hW z4 hL
 simp only[ndR]
 intros
 repeat (rename Ap _ _ _ _=>hgd;clear hgd)
 simp only[ndS]
 refine wpList_nil ?_
 obtain⟨⟨b1,yb1,k1,f1⟩,-⟩:=hL
 go_wp2
 refine bodyPost_ret (by simp[results,Tryz.results52,go_sem,k1,f1,yb1]) rfl ⟨rfl,by exact Aa⟩
theorem Wy (K A R n d E:Int) (p q:Option Addr) (len cap m vc:Nat) (w:World)
  (c1:∀W,Below w.heap.size w W->Cb 150 #[.agg #[K,.slice p len cap,A,R,n,d,.slice q m vc,E]] W (.bool false)):
  Cb 110 #[.agg #[K,.slice p len cap,A,R,n,d,.slice q m vc,E]] w (.int .i64 210):=by
 have H_c1:=Hd c1
 clear c1
 go_enter Tryz.func110,Tryz.ntmps110
 go_upto_region 1 with(fail)
 refine Ac w (Bc w.heap.size #[K,.slice p len cap,A,R,n,d,.slice q m vc,E] 98<|Bz) ?_
 rintro W1 hW z2 ⟨⟨b1,yb1,k1,f1⟩,-⟩
 go_wp2_with fail
 refine(H_c1.out _ (Aa)).mono ?_
 rintro e w3 ⟨rfl,hb3⟩
 have z4:=hb3.size
 try simp at z4
 clear k1 f1
 refine Ad w w3 (Bc w.heap.size #[K,.slice p len cap,A,R,n,d,.slice q m vc,E] 98<|Bz) ?_
 clear b1 hW
 rintro hW z5 ⟨⟨b1,yb1,k1,f1⟩,-⟩
 clear hb3
 go_wp2
 refine bodyPost_ret (by simp[results,Tryz.results110,go_sem,k1,f1,yb1]) rfl ⟨rfl,by exact Aa⟩
theorem T6 (K A R n d E:Int) (p q:Option Addr) (len cap m vc:Nat) (w:World)
  (c1:∀W,Below w.heap.size w W->Cb 150 #[.agg #[K,.slice p len cap,A,R,n,d,.slice q m vc,E]] W (.bool true)):
  Cb 110 #[.agg #[K,.slice p len cap,A,R,n,d,.slice q m vc,E]] w (.int .i64 0):=by
 have H_c1:=Hd c1
 clear c1
 go_enter Tryz.func110,Tryz.ntmps110
 go_upto_region 1 with(fail)
 refine Ac w (Bc w.heap.size #[K,.slice p len cap,A,R,n,d,.slice q m vc,E] 98<|Bz) ?_
 rintro W1 hW z2 ⟨⟨b1,yb1,k1,f1⟩,-⟩
 go_wp2_with fail
 refine(H_c1.out _ (Aa)).mono ?_
 rintro e w3 ⟨rfl,hb3⟩
 have z4:=hb3.size
 try simp at z4
 clear k1 f1
 refine Ad w w3 (Bc w.heap.size #[K,.slice p len cap,A,R,n,d,.slice q m vc,E] 98<|Bz) ?_
 clear b1 hW
 rintro hW z5 ⟨⟨b1,yb1,k1,f1⟩,-⟩
 clear hb3
 go_wp2
 refine bodyPost_ret (by simp[results,Tryz.results110,go_sem,k1,f1,yb1]) rfl ⟨rfl,by exact Aa⟩
theorem O2 (s:A4) (p q:Option Addr) (cap vc:Nat) (w:World) (h:Cs w s p q) (hs:Cw s=true):
  Cb 110 #[.agg (C7 s p q cap vc)] w (.int .i64 0):=
 T6 _ _ _ _ _ _ p q _ cap _ vc w (fun W hW=>by have:=Ln s p q cap vc W (h.below hW);rw[hs] at this;exact this)
theorem Rb (s:A4) (p q:Option Addr) (cap vc:Nat) (w:World) (h:Cs w s p q) (hs:Cw s=false):
  Cb 110 #[.agg (C7 s p q cap vc)] w (.int .i64 210):=
 Wy _ _ _ _ _ _ p q _ cap _ vc w (fun W hW=>by have:=Ln s p q cap vc W (h.below hW);rw[hs] at this;exact this)
end Go.Proofs.YtidfcoooccblaaaGreat
namespace Go.Proofs.YtidfcoooccblaaaGreat
open Go.RowKit Go.Shelf
attribute [local go_sem] Oper.semAt_some
def okZ (z:(Int×Int)×(Int×Int)):Bool:=(z.2.1==z.1.1)&&Bi z.2.2
def farStep (f:Int) (z:(Int×Int)×(Int×Int)):Int:=mx (mx f (wrap64 (z.2.2-z.1.2))) (wrap64 (z.1.2-z.2.2))
def farOf (l:List ((Int×Int)×(Int×Int))):Int:=l.foldl farStep 0
structure KF (B0 n₀:Nat) (A B:World):Prop where
 below:Below B0 A B
 rest:∀(b:Nat) (cs:Array Value) (t:TypeId) (f:Nat×Nat),n₀<=b->A.heap[b]? =some (.cells cs t f)->B.heap[b]? =some (.cells cs t f)
theorem KF.refl (B0 n₀:Nat) (A:World):KF B0 n₀ A A:=⟨Below.refl _ _,fun _ _ _ _ _ h=>h⟩
theorem KF.trans {B0 n₀:Nat} {A B C:World} (h:KF B0 n₀ A B) (k:KF B0 n₀ B C):KF B0 n₀ A C:=⟨h.below.trans k.below,fun b cs t f hb ha=>k.rest b cs t f hb (h.rest b cs t f hb ha)⟩
theorem KF.alloc {B0 n₀:Nat} {A B:World} (h:KF B0 n₀ A B) (hB:B0<=B.heap.size) (o:Obj):KF B0 n₀ A (B.alloc o):=⟨h.below.alloc hB o,fun b cs t f hb ha=>(Below.heap_alloc B o b (Cf (h.rest b cs t f hb ha))).trans (h.rest b cs t f hb ha)⟩
theorem KF.set {B0 n₀:Nat} {A B:World} (h:KF B0 n₀ A B) {g i:Nat} (h1:B0<=g) (h2:g<n₀) (v:Value):KF B0 n₀ A (B.setCell ⟨g,i,none⟩ v):=⟨h.below.setCell (p:=⟨g,i,none⟩) h1 v,fun b cs t f hb ha=>(Below.heap_setCell B ⟨g,i,none⟩ v b (by simp;omega)).trans (h.rest b cs t f hb ha)⟩
theorem KF.calls {B0 n₀:Nat} {A B C:World} (h:KF B0 n₀ A B) (hb:Below B.heap.size B C) (hB:B0<=B.heap.size):KF B0 n₀ A C:=⟨h.below.trans (hb.mono hB),fun b cs t f hn ha=>(hb.block b (Cf (h.rest b cs t f hn ha))).trans (h.rest b cs t f hn ha)⟩
theorem KF.putObj {B0 n₀:Nat} {w:World} (hB:B0<=w.heap.size) (W:World) (l:Nat) (o o':Obj) (hl:w.heap.size<=l) (h:W.heap[l]? =some o) (h1:o.isCells=false) (h2:o.isWalk=false):KF B0 n₀ W (W.putObj l o'):=
 ⟨belowK_b hB W l o o' hl h h1 h2,fun b cs t f _ ha=>E7 o' h h1 b cs f ha⟩
theorem KeepsOthers.calls {A B C:World} (h:KeepsOthers A B) (hb:Below B.heap.size B C):KeepsOthers A C:=⟨Nat.le_trans h.size hb.size,fun k o hk ho=>by
 have e:=h.same k o hk ho
 exact(hb.block k (Cf (e))).trans e⟩
def farR (s:A4) (pts:List (Int×Int)):Int×Int:=if pts.length=(B2 s).length then (if ((B2 s).zip pts).all okZ then (farOf ((B2 s).zip pts),0) else (0,2)) else (0,2)
def FarOut (s:A4) (pts:List (Int×Int)) (w:World) (e:Ending) (w':World):Prop:=e= .returned (.tuple #[.int .i64 (farR s pts).1,.int .i64 (farR s pts).2])/\Below w.heap.size w w'
theorem Dr {A B:World} (h:KeepsOthers A B:=by repeat (first|with_reducible (exact KeepsOthers.refl _)|with_reducible (refine KeepsOthers.trans ?_ (KeepsOthers.setCell _ _ _))|with_reducible (refine KeepsOthers.trans ?_ (KeepsOthers.alloc _ _))|with_reducible (refine KeepsOthers.calls ?_ (by assumption)))):KeepsOthers A B:=h
theorem kfAny {B0 n₀:Nat} {A B:World} (h:KF B0 n₀ A B:=by repeat (first|with_reducible (exact KF.refl _ _ _)|with_reducible (refine KF.set ?_ (by omega) (by omega) _)|with_reducible (refine KF.alloc ?_ (by omega) _)|with_reducible (refine KF.calls ?_ (by assumption) (by first|omega|(simp;omega))))):KF B0 n₀ A B:=h
end Go.Proofs.YtidfcoooccblaaaGreat
namespace Go.Proofs.YtidfcoooccblaaaGreat
open Go.RowKit
attribute [local simp] Oper.looksAt Op.operands Call.operands Al Det Ap
structure Hm (w:World) (p:Option Addr) (l:List A4):Prop where
 at':∀(i:Nat) (s:A4),l[i]? =some s->∃b o p' q' cap vc,p=some ⟨b,o,none⟩/\(∀j v,(C7 s p' q' cap vc)[j]? =some v->w.cell? ⟨b,o+i*8+j,none⟩=some v)/\Cs w s p' q'/\s.raw.length<=vc
theorem Hm.below {w w':World} {p:Option Addr} {l:List A4} (h:Hm w p l) (hb:Below w.heap.size w w'):Hm w' p l:=⟨fun i s hs=>by
 obtain⟨b,o,p',q',cap,vc,e,h1,h2,h3⟩:=h.at' i s hs
 exact⟨b,o,p',q',cap,vc,e,fun j v hv=>(hb.cell (p:=⟨b,_,none⟩) (Br (h1 j v hv))).trans (h1 j v hv),h2.below hb,h3⟩⟩
theorem Hm.one {w:World} {p:Option Addr} {l:List A4} (h:Hm w p l) {i:Nat} {s:A4} (hs:l[i]? =some s):∃b o p' q' cap vc,p=some ⟨b,o,none⟩/\Cs w s p' q'/\s.raw.length<=vc/\
  w.cell? ⟨b,o+i*8,none⟩=some (s.K)/\w.cell? ⟨b,o+i*8+1,none⟩=some (.slice p' s.runs.length cap)/\w.cell? ⟨b,o+i*8+2,none⟩=some (s.A)/\w.cell? ⟨b,o+i*8+3,none⟩=some (s.R)/\w.cell? ⟨b,o+i*8+4,none⟩=some (s.n)/\w.cell? ⟨b,o+i*8+5,none⟩=some (s.d)/\w.cell? ⟨b,o+i*8+6,none⟩=some (.slice q' s.raw.length vc)/\w.cell? ⟨b,o+i*8+7,none⟩=some (s.E):=by
 obtain⟨b,o,p',q',cap,vc,e,h1,h2,h3⟩:=h.at' i s hs
 exact⟨b,o,p',q',cap,vc,e,h2,h3,h1 0 _ rfl,h1 1 _ rfl,h1 2 _ rfl,h1 3 _ rfl,h1 4 _ rfl,h1 5 _ rfl,h1 6 _ rfl,h1 7 _ rfl⟩
structure A9 (w:World) (s:A3) (ps po:Option Addr):Prop where
 segs:Hm w ps s.segs
 opn:A5 w po s.opn
 fewS:s.segs.length<=100
 fewO:s.opn.length<=100
theorem A9.below {w w':World} {s:A3} {ps po:Option Addr} (h:A9 w s ps po) (hb:Below w.heap.size w w'):A9 w' s ps po:=⟨h.segs.below hb,h.opn.below hb,h.fewS,h.fewO⟩
def Cd (s:A3) (ps:Option Addr) (cs:Nat) (po:Option Addr) (co:Nat):Array Value:= #[.string s.name,s.eps,s.floor,s.last,s.scale,.slice ps s.segs.length cs,.slice po s.opn.length co]
theorem X4 {r:Af} {l:List Af} (h:B9 (r::l)):Bm (r::l)=r.f:=by
 have h1:=(h.each r (by simp)).c0
 unfold Bm
 apply Gx
 have:=Kw (r::l) 0 (fun r hr=>by have:=(h.each r hr).c0;omega)
 rw[show ((0:Nat):Int)=0 from rfl] at this
 rw[this]
 show (B7 r++Ae l)[0]? =_
 have hn:(B7 r).length=r.c.toNat:=Cc r
 rw[List.getElem?_append_left (by omega),D6 r 0 (by omega)]
 simp
theorem lastT_is {r:Af} {l:List Af} (h:B9 (l++ [r])):Db (l++ [r])=r.f+(r.c-1)*r.s:=by
 have h1:=(h.each r (by simp)).c0
 have hc:∀q,q∈l++ [r]->0<=q.c:=fun q hq=>by have:=(h.each q hq).c0;omega
 have hl:=C4 (l++ [r]) hc
 have hl2:=C4 l fun q hq=>hc q (by simp[hq])
 unfold Db
 rw[Hj] at hl⊢
 simp only[cnt] at hl⊢
 apply Gx
 have:=Kw (l++ [r]) ((cnt l+(r.c+0))-1).toNat hc
 rw[Int.toNat_of_nonneg (by omega)] at this
 rw[this,C3]
 have e:Ae [r]=B7 r:=by simp[Ae]
 rw[e,List.getElem?_append_right (by omega),D6 r _ (by omega),show ((((cnt l+(r.c+0))-1).toNat-(Ae l).length:Nat):Int)=r.c-1 by omega,Int.mul_comm]
theorem Sj {r:Af} (hr:Ep r):wrap64 (r.c-1)=r.c-1/\wrap64 ((r.c-1)*r.s)=(r.c-1)*r.s/\wrap64 (r.f+(r.c-1)*r.s)=r.f+(r.c-1)*r.s:=by
 have r1:=hr.f0;have r2:=hr.f1;have r3:=hr.s0;have r4:=hr.s1;have r5:=hr.c0;have r6:=hr.c1
 obtain⟨M,hM⟩:∃M,(r.c-1)*r.s=M:=⟨_,rfl⟩
 have m0:0<=M:=hM▸Int.mul_nonneg (by omega) (by omega)
 have m1:M<=256*281474976710656:=hM▸Int.mul_le_mul (by omega) (by omega) (by omega) (by omega)
 rw[hM,Ah,Ah,Ah]
 omega
theorem Z5 (K A R n d E:Int) (q:Option Addr) (b o cap m vc:Nat) (l:List Af) (r0 r1:Af) (w:World) (h:Ai w (some ⟨b,o,none⟩) l) (H0:Hid (l[0]? =some r0)) (H1:l[l.length-1]? =some r1) (hlen:l.length<=300) (hpos:0<l.length) (hr:Ep r1):
  Cb 111 #[.agg #[K,.slice (some ⟨b,o,none⟩) l.length cap,A,R,n,d,.slice q m vc,E]] w (.tuple #[r0.f,.int .i64 (r1.f+(r1.c-1)*r1.s)]):=by
 obtain⟨b',o',e9,q0,q1,q2⟩:=h.at' _ _ H1
 obtain⟨rfl,rfl⟩:b=b'/\o=o':=by(injection e9 with e9;injection e9 with e1 e2;exact⟨e1,e2⟩)
 clear e9 H1
 have zv:=Br q0
 try simp only at zv
 obtain⟨E2,E3,E4⟩:=Sj hr
 replace E2:=Hd E2
 replace E3:=Hd E3
 replace E4:=Hd E4
 go_enter Tryz.func111,Tryz.ntmps111
 have E1:=Hd (show wrap64 ((l.length:Int)-1)=((l.length-1:Nat):Int) by rw[Ah];omega)
 go_upto_region 2 with(fail)
 refine Ac w (Bc w.heap.size #[K,.slice (some ⟨b,o,none⟩) l.length cap,A,R,n,d,.slice q m vc,E] 98<|Bc (w.heap.size+1) #[r1.f,r1.s,r1.c] 144<|Rc (fun W'=>Ai W' (some ⟨b,o,none⟩) l)<|Bz) ?_ (hI:=by exact Aa) (hR:=(Bc.mk (by exact Ab)<|Bc.mk (by exact Ab)<|Rc.mk (by exact(h.below Aa))<|trivial))
 rintro W1 hW z2 hL
 obtain⟨⟨b1,yb1,k1,f1⟩,⟨b2,yb2,k2,f2⟩,b3,-⟩:=id hL
 clear k1 f1 k2 f2
 refine Bh 16 27 hW hL ?_
 iterate 16
  apply Aj (hg:=rfl) (hal:=rfl)
  ·intro a W' hC hE
   obtain⟨_,⟨-,-,k1,-⟩,⟨-,-,k2,-⟩,k3,-⟩:=hC
   obtain⟨b',o',e9,q0,q1,q2⟩:=k3.at' 0 _ H0.out;obtain⟨rfl,rfl⟩:b=b'/\o=o':=(by injection e9 with e9;injection e9 with e1 e2;exact⟨e1,e2⟩);rw[Nat.zero_mul,Nat.add_zero] at q0
   first
    |(simp at hE;simp[go_sem,Act.eval,iw,hE,k1,k2,k3,q0,q1,q2,hpos,E2.out,E3.out,E4.out];try rfl)
    |(clear hE;simp[go_sem,Act.eval,iw,k1,k2,k3,q0,q1,q2,hpos,E2.out,E3.out,E4.out];try rfl)
 clear hW hL b1 b2 b3
 rintro W3 hW z4 hL
 simp only[ndR]
 intros
 simp only[ndS]
 refine wpList_nil ?_
 obtain⟨⟨b1,yb1,k1,f1⟩,⟨b2,yb2,k2,f2⟩,b3,-⟩:=hL
 go_wp2
 refine bodyPost_ret (by simp[results,Tryz.results111,go_sem,k1,f1,k2,f2,yb1,yb2]) rfl ⟨rfl,by exact Aa⟩
theorem Y9 (K A R n d E:Int) (p q:Option Addr) (len cap m vc:Nat) (w:World) (c t:Int) (hc:1<=c/\c<=256)
  (c1:∀W,Below w.heap.size w W->Cb 99 #[.slice p len cap] W (c))
  (c2:∀W,Below w.heap.size w W->Cb 112 #[.slice p len cap,.int .i64 (c-1)] W (.tuple #[t,.int .i64 0])):
  Cb 54 #[.agg #[K,.slice p len cap,A,R,n,d,.slice q m vc,E]] w (t):=by
 have E1:=Hd (show wrap64 (c-1)=c-1 by rw[Ah];omega)
 have H_c1:=Hd c1
 clear c1
 have H_c2:=Hd c2
 clear c2
 go_enter Tryz.func54,Tryz.ntmps54
 go_upto_region 1 with(fail)
 refine Ac w (Bc w.heap.size #[K,.slice p len cap,A,R,n,d,.slice q m vc,E] 98<|Bz) ?_
 rintro W1 hW z2 hL
 refine Bh 12 16 hW hL ?_
 iterate 4 refine dE (fun W' hC=>E1.out) ?_
 refine cE (fun W' hC=>E1.out) (fun W' hC=>H_c1.out W' (hW.trans (hC.1.of_priv hW.size))) ?_
 refine dE (fun W' hC=>E1.out) ?_
 refine cE (fun W' hC=>E1.out) (fun W' hC=>H_c2.out W' (hW.trans (hC.1.of_priv hW.size))) ?_
 iterate 5 refine dE (fun W' hC=>E1.out) ?_
 clear hW hL
 rintro W3 hW z4 hL
 simp only[ndR]
 intros
 simp only[ndS]
 refine wpList_nil ?_
 obtain⟨⟨b1,yb1,k1,f1⟩,-⟩:=hL
 try clear H_c1 H_c2
 go_wp2
 refine bodyPost_ret (by simp[results,Tryz.results54,go_sem,k1,f1,yb1]) rfl ⟨rfl,by exact Aa⟩
theorem c_mgEnds (s:A4) (p q:Option Addr) (cap vc:Nat) (w:World) (h:Cs w s p q) (hs:Cw s=true):
  Cb 111 #[.agg (C7 s p q cap vc)] w (.tuple #[.int .i64 (Bm s.runs),.int .i64 (Db s.runs)]):=by
 have hl:=Bj hs
 have hpos:=hl.some'
 have hne:s.runs≠ []:=List.length_pos_iff.1 hpos
 obtain⟨r0,l0,e0⟩:∃r l,s.runs=r::l:=List.exists_cons_of_ne_nil hne
 obtain⟨l1,r1,e1⟩:∃l r,s.runs=l++ [r]:=⟨s.runs.dropLast,s.runs.getLast hne,(List.dropLast_concat_getLast hne).symm⟩
 have h0:s.runs[0]? =some r0:=by rw[e0];rfl
 have h1:s.runs[s.runs.length-1]? =some r1:=by rw[e1];simp
 have f0:Bm s.runs=r0.f:=by rw[e0] at hl⊢;exact X4 hl
 have f1:Db s.runs=r1.f+(r1.c-1)*r1.s:=by rw[e1] at hl⊢;exact lastT_is hl
 obtain⟨b,o,rfl,-⟩:=h.runs.at' 0 r0 h0
 rw[f0,f1]
 exact Z5 _ _ _ _ _ _ q b o cap _ vc s.runs r0 r1 w h.runs (Hd h0) h1 h.fewR hpos (hl.each r1 (List.mem_of_getElem? h1))
theorem c_srLast (s:A4) (p q:Option Addr) (cap vc:Nat) (w:World) (h:Cs w s p q) (hs:Cw s=true):
  Cb 54 #[.agg (C7 s p q cap vc)] w (.int .i64 (Db s.runs)):=by
 have hl:=Bj hs
 obtain⟨n0,n1⟩:=Da hl
 exact Y9 _ _ _ _ _ _ p q _ cap _ vc w (cnt s.runs) (Db s.runs) ⟨n0,n1⟩ (fun W hW=>Jl p cap s.runs W hl (h.runs.below hW)) (fun W hW=>Yh p cap s.runs (cnt s.runs-1) W hl (h.runs.below hW) (by omega) (by omega))
def Z6 (w:World) (p:Option Addr) (cap:Nat) (l:List A4) (a':Act) (W:World):Prop:=
 Below w.heap.size w W/\∃(i:Nat) (bh:Int),(∃u:Nat->Value,a'= {tmps:= #[.slice p l.length cap,u 1,u 2,bh,u 4,u 5,u 6,u 7,.slice p l.length cap,.int .i64 (l.length:Int),.int .i64 (i:Int),u 11,u 12,u 13,u 14,u 15,u 16,u 17,u 18,u 19,u 20,u 21,u 22,u 23,u 24,u 25,u 26],defers:= []})/\i<=l.length/\Ly (-1) l=Ly bh (l.drop i)
theorem Ye (p:Option Addr) (cap:Nat) (l:List A4) (w:World) (hlen:l.length<=1000000) (h:Hm w p l):
  Cb 53 #[.slice p l.length cap] w (.int .i64 (if Ly (-1) l=true then 0 else 240)):=by
 obtain⟨RES,hRES⟩:∃z:Int,(if Ly (-1) l=true then 0 else 240)=z:=⟨_,rfl⟩
 rw[hRES]
 go_enter Tryz.func53,Tryz.ntmps53
 go_wp2
 refine wp_loop (Z6 w p cap l) (fun a' _=>l.length-(Aq (a'.tmps.getD 10 undef)).toNat) ?_ ?_
 ·unfold Z6
  exact⟨Below.refl _ _,0,-1,Ag rfl,Nat.zero_le _,rfl⟩
 ·rintro a' W ⟨hW0,i,bh,⟨u,rfl⟩,hi',hrow⟩
  have hz:=hW0.size
  rcases Nat.lt_or_ge i l.length with hlt|hge
  ·obtain⟨s,tr⟩:∃r,l[i]? =some r:=⟨l[i]'(by omega),List.getElem?_eq_getElem (by omega)⟩
   have hin:=h.below hW0
   obtain⟨b,o,p',q',cp,vc,rfl,hs,hvc,q0,q1,q2,q3,q4,q5,q6,q7⟩:=hin.one tr
   have hd:l.drop i=s::l.drop (i+1):=by
    rw[List.drop_eq_getElem_cons hlt]
    rw[List.getElem?_eq_getElem hlt] at tr
    injection tr with tr
    rw[tr]
   rw[hd] at hrow
   simp only[Ly] at hrow
   clear hd tr hin
   cases hb:Cw s with
   |false=>
    have c1:=fun W' (hW':Below W.heap.size W W')=>Rb s p' q' cp vc W' (hs.below hW') hb
    unfold C7 at c1
    replace c1:=Hd c1
    rw[hb,Bool.false_and] at hrow
    rw[hrow] at hRES
    replace hRES:=Hd hRES
    clear hb hrow hs
    go_wp2_with fail
    refine(c1.out _ Aa).mono ?_
    rintro e w21 ⟨rfl,hb21⟩
    have z22:=hb21.size
    try simp at z22
    refine Ad W w21 (Bc W.heap.size #[s.K,.slice p' s.runs.length cp,s.A,s.R,s.n,s.d,.slice q' s.raw.length vc,s.E] 98<|Bz) ?_
    rintro hW z23 ⟨⟨b1,yb1,k1,f1⟩,-⟩
    clear hb21
    go_wp2
    go_ret
    exact⟨by rw[<-hRES.out];rfl,hW0.trans (hW.mono hz)⟩
   |true=>
    have c1:=fun W' (hW':Below W.heap.size W W')=>O2 s p' q' cp vc W' (hs.below hW') hb
    have c2:=fun W' (hW':Below W.heap.size W W')=>c_mgEnds s p' q' cp vc W' (hs.below hW') hb
    unfold C7 at c1 c2
    replace c1:=Hd c1
    replace c2:=Hd c2
    rw[hb,Bool.true_and] at hrow
    clear hb hs
    obtain⟨F,hF⟩:∃F,Bm s.runs=F:=⟨_,rfl⟩
    obtain⟨L,hL⟩:∃L,Db s.runs=L:=⟨_,rfl⟩
    rw[hF,hL] at c2 hrow
    clear hF hL
    by_cases hlt2:bh<F
    ·rw[decide_eq_true hlt2,Bool.true_and] at hrow
     replace hrow:=Hd hrow
     replace hRES:=Hd hRES
     go_wp2_with fail
     refine(c1.out _ Aa).mono ?_
     rintro e w21 ⟨rfl,hb21⟩
     have z22:=hb21.size
     try simp at z22
     refine Ad W w21 (Bc W.heap.size #[s.K,.slice p' s.runs.length cp,s.A,s.R,s.n,s.d,.slice q' s.raw.length vc,s.E] 98<|Bz) ?_
     rintro hW z23 ⟨⟨b1,yb1,k1,f1⟩,-⟩
     clear hb21
     go_wp2_with fail
     refine(c2.out _ Aa).mono ?_
     rintro e w24 ⟨rfl,hb24⟩
     have z25:=hb24.size
     try simp at z25
     clear k1 f1
     refine Ad W w24 (Bc W.heap.size #[s.K,.slice p' s.runs.length cp,s.A,s.R,s.n,s.d,.slice q' s.raw.length vc,s.E] 98<|Bz) ?_
     clear b1 hW
     rintro hW z26 ⟨⟨b1,yb1,k1,f1⟩,-⟩
     clear hb24
     go_wp2
     rw[show (i:Int)+1=((i+1:Nat):Int) by omega]
     refine⟨?_,by simp[Aq];omega⟩
     unfold Z6
     exact⟨hW0.trans (hW.mono hz),i+1,L,Ag rfl,by omega,hrow.out⟩
    ·rw[decide_eq_false hlt2,Bool.false_and] at hrow
     rw[hrow] at hRES
     replace hRES:=Hd hRES
     clear hrow
     have hle:F<=bh:=by omega
     clear hlt2
     go_wp2_with fail
     refine(c1.out _ Aa).mono ?_
     rintro e w21 ⟨rfl,hb21⟩
     have z22:=hb21.size
     try simp at z22
     refine Ad W w21 (Bc W.heap.size #[s.K,.slice p' s.runs.length cp,s.A,s.R,s.n,s.d,.slice q' s.raw.length vc,s.E] 98<|Bz) ?_
     rintro hW z23 ⟨⟨b1,yb1,k1,f1⟩,-⟩
     clear hb21
     go_wp2_with fail
     refine(c2.out _ Aa).mono ?_
     rintro e w24 ⟨rfl,hb24⟩
     have z25:=hb24.size
     try simp at z25
     clear k1 f1
     refine Ad W w24 (Bc W.heap.size #[s.K,.slice p' s.runs.length cp,s.A,s.R,s.n,s.d,.slice q' s.raw.length vc,s.E] 98<|Bz) ?_
     clear b1 hW
     rintro hW z26 ⟨⟨b1,yb1,k1,f1⟩,-⟩
     clear hb24
     go_wp2
     go_ret
     exact⟨by rw[<-hRES.out];rfl,hW0.trans (hW.mono hz)⟩
  ·obtain rfl:i=l.length:=by omega
   rw[List.drop_length] at hrow
   simp only[Ly] at hrow
   rw[hrow] at hRES
   replace hRES:=Hd hRES
   go_wp2
   go_ret
   exact⟨by rw[<-hRES.out];rfl,hW0⟩
end Go.Proofs.YtidfcoooccblaaaGreat
namespace Go.Proofs.YtidfcoooccblaaaGreat
open Go.RowKit Go.Shelf
attribute [local go_sem] Oper.semAt_some
theorem J4 {α β:Type} {l:List α} {k:Nat} {x:α} (f:α->List β) (h:l[k]? =some x):(l.take (k+1)).flatMap f=(l.take k).flatMap f++f x:=by
 rw[List.take_add_one,h];simp
theorem X3 {α β:Type} {l:List α} {k m:Nat} {x:α} (f:α->List β) (h:l[k]? =some x) (hm:m<(f x).length) (r:List β):((l.take k).flatMap f++(f x).take m).length<(l.flatMap f++r).length:=by
 have e:l.flatMap f=(l.take (k+1)).flatMap f++(l.drop (k+1)).flatMap f:=by rw[<-List.flatMap_append,List.take_append_drop]
 rw[e,J4 f h]
 simp only[List.length_append,List.length_take]
 omega
theorem Sw {α β:Type} {l:List α} {k m:Nat} {x:α} (f:α->List β) (h:l[k]? =some x) (r:List β):(l.take k).flatMap f++(f x).take m<+:l.flatMap f++r:=by
 have e:l.flatMap f=(l.take (k+1)).flatMap f++(l.drop (k+1)).flatMap f:=by rw[<-List.flatMap_append,List.take_append_drop]
 rw[e,J4 f h]
 exact⟨(f x).drop m++((l.drop (k+1)).flatMap f++r),by simp only[List.append_assoc];rw[<-List.append_assoc ((f x).take m),List.take_append_drop]⟩
theorem Js {β:Type} {l:List β} {m:Nat} {t:β} (h:l[m]? =some t):l.take (m+1)=l.take m++ [t]:=by rw[List.take_add_one,h];rfl
theorem KF.blk {B0 n₀:Nat} {A B:World} (h:KF B0 n₀ A B) {b:Nat} {cs:Array Value} {t:TypeId} (hn:n₀<=b) (hb:Blk A b cs t):Blk B b cs t:=h.rest b cs t (0,0) hn hb
theorem Sg {w:World} {B n sz:Nat} {e:TypeId} {v:Value} {xs:List Value} (h:w.ownsRow B e sz v n xs) (hn:0<n):∃g cap cur,v= .slice (some ⟨g,0,none⟩) n cap/\B<=g/\Blk w g cur e/\cur.toList.take (n*sz)=xs:=by
 obtain⟨_,⟨_,h0⟩|⟨g,cap,cur,rfl,hg,hb,_,_,_,ht⟩⟩:=h
 ·omega
 ·exact⟨g,cap,cur,rfl,hg,hb,ht⟩
theorem Mk (n:Nat) (hn:1<=n) (lr Bs n₀:Nat) (s:A3) (ps po:Option Addr) (cs co:Nat) (w₁:World) (hin:A9 w₁ s ps po) (hv:∀x,x∈s.segs->Cw x=true) (h1:w₁.heap.size<=n₀) (hb0:n₀<=Bs)
  (J Jx:List Int->World->Prop) (B0:Nat) (hJ:AbidesFrom B0 J)
  (hY:∀pre x W,J pre W->pre.length<(Do s).length->YieldAt Fence.wide (n-1) Tryz.prog lr #[.int .i64 x] W fun e W'=>(e= .returned (.bool true)/\J (pre++ [x]) W'/\KF w₁.heap.size n₀ W W')∨(e= .returned (.bool false)/\Jx (pre++ [x]) W'))
  (W:World) (hW:Below w₁.heap.size w₁ W) (hBs:Blk W Bs (Cd s ps cs po co) 25) (h0:J [] W):
  CallsIn Fence.wide n Tryz.prog 113 #[.func (.yield lr) #[] #[],.pointer (some ⟨Bs,0,none⟩)] W fun e W'=>(∃v,e= .returned v)/\((∃ys,ys=Do s/\J ys W')∨(∃pre,pre<+:Do s/\Jx pre W')):=by
 have hfS:=hin.fewS
 have hfO:=hin.fewO
 have k:=hBs.cell
 unfold Cd at k
 refine callsIn_of_wp Tryz.func113 rfl trivial ?_ rfl
 simp only[Tryz.ntmps113,List.size_toArray,List.length_cons,List.length_nil,Nat.reduceAdd,Nat.reduceSub,Array.replicate_succ,Array.replicate_zero,List.push_toArray,List.append_toArray,List.nil_append,List.cons_append]
 gi_wp2
 clear k
 gi_loopw [14] (fun i wr=>∃k:Nat,k<=s.segs.length/\i= .int .i64 k/\J ((s.segs.take k).flatMap fun x=>Ae x.runs) wr/\Below w₁.heap.size w₁ wr/\Blk wr Bs (Cd s ps cs po co) 25) (fun i _=>s.segs.length-(intOf i).toNat)
 case atStart=>exact⟨0,Nat.zero_le _,rfl,h0,hW,hBs⟩
 case round=>
  obtain⟨k,hk,rfl,hJk,hbw,hbk⟩:=hrel
  have hlb:=hbk.lt
  rcases Nat.lt_or_ge k s.segs.length with hlk|hge
  ·obtain⟨x,tr⟩:∃r,s.segs[k]? =some r:=⟨s.segs[k]'(by omega),List.getElem?_eq_getElem (by omega)⟩
   have hsx:=hv x (List.mem_of_getElem? tr)
   have hl:=Bj hsx
   obtain⟨b,o,p',q',cp,vc,rfl,hs,hvc,q0,q1,q2,q3,q4,q5,q6,q7⟩:=(hin.below hbw).segs.one tr
   have ct:=Hd (fun W' (hW':Below wr.heap.size wr W')=>Rf p' cp x.runs W' hl (hs.runs.below hW'))
   have hlen:=Bp hl
   have hcnt:=Da hl
   have htr:=Hd tr
   have zb:=Br q0
   try simp only at zb
   obtain⟨N,hN⟩:∃N,(Ae x.runs).length=N+1:=⟨(Ae x.runs).length-1,by omega⟩
   have HN:=Hd hN
   have hN6:N+1<=256:=by omega
   clear tr hs hl hlen hcnt
   unfold Tn at ct
   rw[hN] at ct
   clear hN
   gi_wp2_with (refine⟨trivial,?_⟩;gi_at_call 114;refine(callsIn_wide.2 (ct.out _ (Aa))).mono ?_;rintro e w2 ⟨v,rfl,hv2,hB⟩;obtain⟨g,cap',cur,rfl,hg,hb,htk⟩:=Sg hv2 (Nat.succ_pos _);clear hv2;replace htk:=Hd htk;have hg':wr.heap.size<g:=by(simp at hg;omega))
   clear ct q0 q1 q2 q3 q4 q5 q6 q7
   have hAB:=((Below.refl wr.heap.size wr).alloc (Nat.le_refl _) (Obj.cells (C7 x p' q' cp vc) 98)).trans (hB.mono (by simp))
   have htk':cur.toList.take (N+1)=(Ae x.runs).map (Value.int .i64):=by rw[<-htk.out,Nat.mul_one]
   have hJ1:=By hJ hJk hAB
   have hb2:=hbk.below hAB
   have hw2:=hbw.trans (hAB.mono hbw.size)
   have hg2:Blk w2 g cur 2:=hb
   clear htk hg hB hJk hbk hbw hAB hb zb
   gi_loopw [26] (fun i w3=>∃m:Nat,m<=N+1/\i= .int .i64 m/\J (((s.segs.take k).flatMap fun x=>Ae x.runs)++(Ae x.runs).take m) w3/\Below w₁.heap.size w₁ w3/\Blk w3 Bs (Cd s (some ⟨b,o,none⟩) cs po co) 25/\Blk w3 g cur 2) (fun i _=>N+1-(intOf i).toNat)
   case atStart=>exact⟨0,Nat.zero_le _,rfl,by simpa using hJ1,hw2,hb2,hg2⟩
   case round=>
    obtain⟨m,hm,rfl,hJm,hbw3,hb3,hg3⟩:=hrel
    rcases Nat.lt_or_ge m (N+1) with hlm|hgem
    ·obtain⟨t,ht⟩:∃t,(Ae x.runs)[m]? =some t:=⟨(Ae x.runs)[m]'(by have:=HN.out;omega),List.getElem?_eq_getElem _⟩
     have hcell:wr.cell? ⟨g,m,none⟩=some (.int .i64 t):=by rw[cell_of_row wr g m cur _ (0,0) hg3];exact Ee htk' (by simp[ht])
     obtain⟨fn,tmps,assign,body,hy,hR⟩:=hY _ t wr hJm (X3 (fun x=>Ae x.runs) htr.out (by have:=HN.out;omega) _)
     have hst:=Hd (Js ht)
     clear ht
     gi_wp2
     refine hR.mono ?_
     rintro e W3 (⟨rfl,hJ3,hk3⟩|⟨rfl,hJx3⟩)
     ·gi_wp2
      go_roundw
      case rel=>exact⟨m+1,by omega,by simp,by rw[hst.out,<-List.append_assoc];exact hJ3,hbw3.trans hk3.below,hk3.blk hb0 hb3,hk3.blk (by omega) hg3⟩
      case measure=>simp[intOf];omega
     ·gi_wp2
      refine bodyPost_ret (results_none rfl _ _ _) rfl ?_
      exact⟨⟨_,rfl⟩,.inr ⟨_,by rw[List.append_assoc,<-hst.out];exact Sw (fun x=>Ae x.runs) htr.out _,hJx3⟩⟩
    ·obtain rfl:m=N+1:=by omega
     have et:(Ae x.runs).take (N+1)=Ae x.runs:=List.take_of_length_le (by have:=HN.out;omega)
     rw[et,<-J4 (fun x=>Ae x.runs) htr.out] at hJm
     gi_wp2
     go_roundw
     case rel=>exact⟨k+1,by omega,by simp,hJm,hbw3,hb3⟩
     case measure=>simp[intOf];omega
  ·obtain rfl:k=s.segs.length:=by omega
   rw[List.take_length] at hJk
   have k:=hbk.cell
   unfold Cd at k
   gi_wp2
   clear k
   gi_loopw [39] (fun i w3=>∃m:Nat,m<=s.opn.length/\i= .int .i64 m/\J ((s.segs.flatMap fun x=>Ae x.runs)++(s.opn.map (·.1)).take m) w3/\Below w₁.heap.size w₁ w3/\Blk w3 Bs (Cd s ps cs po co) 25) (fun i _=>s.opn.length-(intOf i).toNat)
   case atStart=>exact⟨0,Nat.zero_le _,rfl,by simpa using hJk,hbw,hbk⟩
   case round=>
    obtain⟨m,hm,rfl,hJm,hbw3,hb3⟩:=hrel
    rcases Nat.lt_or_ge m s.opn.length with hlm|hgem
    ·obtain⟨⟨t,v⟩,ht⟩:∃t,s.opn[m]? =some t:=⟨s.opn[m]'hlm,List.getElem?_eq_getElem _⟩
     obtain⟨b,o,rfl,q0,q1⟩:=(hin.below hbw3).opn.at' m _ ht
     simp only at q0 q1
     have ht':(s.opn.map (·.1))[m]? =some t:=by rw[List.getElem?_map,ht];rfl
     have hst:=Hd (Js ht')
     have zb:=Br q0
     try simp only at zb
     obtain⟨fn,tmps,assign,body,hy,hR⟩:=hY _ t (wr.alloc (.cells #[.int .i64 t,.int .i64 v] 91)) (By hJ hJm ((Below.refl _ _).alloc (Nat.le_refl _) _)) (by unfold Do;simp;omega)
     clear ht ht'
     gi_wp2
     refine hR.mono ?_
     rintro e W3 (⟨rfl,hJ3,hk3⟩|⟨rfl,hJx3⟩)
     ·gi_wp2
      go_roundw
      case rel=>exact⟨m+1,by omega,by simp,by rw[hst.out,<-List.append_assoc];exact hJ3,(hbw3.alloc hbw3.size _).trans hk3.below,hk3.blk hb0 (hb3.alloc _)⟩
      case measure=>simp[intOf];omega
     ·gi_wp2
      refine bodyPost_ret (results_none rfl _ _ _) rfl ?_
      exact⟨⟨_,rfl⟩,.inr ⟨_,by rw[List.append_assoc,<-hst.out];exact(List.prefix_append_right_inj _).2 (List.take_prefix _ _),hJx3⟩⟩
    ·obtain rfl:m=s.opn.length:=by omega
     rw[List.take_of_length_le (by simp)] at hJm
     gi_wp2
     refine bodyPost_end (results_none rfl _ _ _) rfl ?_
     exact⟨⟨_,rfl⟩,.inl ⟨_,rfl,hJm⟩⟩
theorem Pu (nm:ByteArray) (ep fl la sc:Int) (ps po:Option Addr) (ns cs no co:Nat) (w:World):
  Calls Tryz.prog 56 #[.agg #[.string nm,ep,fl,la,sc,.slice ps ns cs,.slice po no co]] w fun e w'=>e= .returned (.func (.func 113) #[] #[.pointer (some ⟨w.heap.size,0,none⟩)])/\w'=w.alloc (.cells #[.string nm,ep,fl,la,sc,.slice ps ns cs,.slice po no co] 25):=by
 have hmf:∀(fn:Fn) (first cap:Array Value) (w:World),(Instr.makeFunc fn first cap).run Tryz.prog w= .ok (.func fn first cap) w:=fun _ _ _ _=>rfl
 go_enter Tryz.func56,Tryz.ntmps56
 go_wp2
 go_ret
 exact⟨rfl,rfl⟩
theorem Gt {α β:Type} (f:α->List β) (K:Nat):∀l:List α,(∀x,x∈l->(f x).length<=K)->(l.flatMap f).length<=l.length*K
 | [],_=>by simp
 |x::l,h=>by
  have:=Gt f K l fun y hy=>h y (by simp[hy])
  have:=h x (by simp)
  simp only[List.flatMap_cons,List.length_append,List.length_cons,Nat.add_mul]
  omega
theorem O5 {w:World} {s:A3} {ps po:Option Addr} (hin:A9 w s ps po) (hv:∀x,x∈s.segs->Cw x=true):(Do s).length<=25700:=by
 have h1:=Gt (fun x:A4=>Ae x.runs) 256 s.segs fun x hx=>by
  have:=Bj (hv x hx)
  have h2:=Bp this
  have:=(Da this).2
  try simp only
  omega
 have:=hin.fewS
 have:=hin.fewO
 unfold Do
 simp only[List.length_append,List.length_map]
 omega
def Ms (fl:Int) (l:List Int):Nat:=(l.filter fun t=>decide (fl<=t)).length
theorem keptL_in {fl:Int} (l:List Int) {t:Int} (h:fl<=t):Ms fl (l++ [t])=Ms fl l+1:=by simp[Ms,h]
theorem Xw {fl:Int} (l:List Int) {t:Int} (h:¬fl<=t):Ms fl (l++ [t])=Ms fl l:=by simp[Ms,h]
theorem keptL_le (fl:Int) (l:List Int):Ms fl l<=l.length:=List.length_filter_le _ _
theorem kept_in (s:A3) (ps po:Option Addr) (cs co:Nat) (w:World) (hin:A9 w s ps po) (hv:∀x,x∈s.segs->Cw x=true):
  CallsIn Fence.wide 4 Tryz.prog 57 #[.agg (Cd s ps cs po co)] w fun e w'=>e= .returned (.int .i64 (Po s))/\Below w.heap.size w w':=by
 have hN:=O5 hin hv
 have hfew:=Hd hN
 unfold Cd
 refine callsIn_of_wp_marks Tryz.func57 rfl trivial ?_ rfl
 simp only[Tryz.ntmps57,List.size_toArray,List.length_cons,List.length_nil,Nat.reduceAdd,Nat.reduceSub,Array.replicate_succ,Array.replicate_zero,List.push_toArray,List.append_toArray,List.nil_append,List.cons_append]
 gi_wp2_with (refine⟨trivial,?_⟩;gi_at_call 56;refine(callsIn_wide.2 (Pu _ _ _ _ _ _ _ _ _ _ _ _)).mono ?_;rintro e w' ⟨rfl,rfl⟩)
 have hW0:Below w.heap.size w (((w.alloc (.cells #[.string s.name,s.eps,s.floor,s.last,s.scale,.slice ps s.segs.length cs,.slice po s.opn.length co] 25)).alloc (.cells #[.int .i64 0] 3)).alloc (.cells #[.string s.name,s.eps,s.floor,s.last,s.scale,.slice ps s.segs.length cs,.slice po s.opn.length co] 25)):=Aa
 have b1:Blk (((w.alloc (.cells #[.string s.name,s.eps,s.floor,s.last,s.scale,.slice ps s.segs.length cs,.slice po s.opn.length co] 25)).alloc (.cells #[.int .i64 0] 3)).alloc (.cells #[.string s.name,s.eps,s.floor,s.last,s.scale,.slice ps s.segs.length cs,.slice po s.opn.length co] 25)) w.heap.size #[.string s.name,s.eps,s.floor,s.last,s.scale,.slice ps s.segs.length cs,.slice po s.opn.length co] 25:=Ab
 have b2:Blk (((w.alloc (.cells #[.string s.name,s.eps,s.floor,s.last,s.scale,.slice ps s.segs.length cs,.slice po s.opn.length co] 25)).alloc (.cells #[.int .i64 0] 3)).alloc (.cells #[.string s.name,s.eps,s.floor,s.last,s.scale,.slice ps s.segs.length cs,.slice po s.opn.length co] 25)) (w.heap.size+1) #[.int .i64 0] 3:=Ab
 have b3:Blk (((w.alloc (.cells #[.string s.name,s.eps,s.floor,s.last,s.scale,.slice ps s.segs.length cs,.slice po s.opn.length co] 25)).alloc (.cells #[.int .i64 0] 3)).alloc (.cells #[.string s.name,s.eps,s.floor,s.last,s.scale,.slice ps s.segs.length cs,.slice po s.opn.length co] 25)) (w.heap.size+1+1) #[.string s.name,s.eps,s.floor,s.last,s.scale,.slice ps s.segs.length cs,.slice po s.opn.length co] 25:=Blk.new' (by simp)
 have hsz:(((w.alloc (.cells #[.string s.name,s.eps,s.floor,s.last,s.scale,.slice ps s.segs.length cs,.slice po s.opn.length co] 25)).alloc (.cells #[.int .i64 0] 3)).alloc (.cells #[.string s.name,s.eps,s.floor,s.last,s.scale,.slice ps s.segs.length cs,.slice po s.opn.length co] 25)).heap.size=w.heap.size+1+1+1:=by simp
 obtain⟨W0,hWe⟩:∃W0,W0=(((w.alloc (.cells #[.string s.name,s.eps,s.floor,s.last,s.scale,.slice ps s.segs.length cs,.slice po s.opn.length co] 25)).alloc (.cells #[.int .i64 0] 3)).alloc (.cells #[.string s.name,s.eps,s.floor,s.last,s.scale,.slice ps s.segs.length cs,.slice po s.opn.length co] 25)):=⟨_,rfl⟩
 rw[<-hWe] at hW0 b1 b2 b3 hsz⊢
 clear hWe hN
 refine wpIn_rangeFunc_ownG rfl (by omega) (gf:=113) (lb:= #[.pointer (some ⟨w.heap.size+1+1,0,none⟩)]) rfl trivial (enters_of Tryz.func113 (by kernel_rfl) rfl)
  (encs:=fun x:Int=> #[Value.int .i64 x]) (Kp:=KF w.heap.size (w.heap.size+1+1)) (S:=fun ys=>ys=Do s) (Sp:=fun pre=>pre<+:Do s) (N:=(Do s).length) (w0:=W0)
  (fun lr J Jx W hWW hJ _ hY h0=>Mk 3 (by omega) lr (w.heap.size+1+1) (w.heap.size+1+1) s ps po cs co w hin hv (by omega) (Nat.le_refl _) J Jx _ hJ hY W (hW0.trans (hWW.mono hW0.size)) (b3.below hWW) h0)
  (fun h k=>h.trans k) (KF.putObj (by omega)) (Below.refl _ _) (fun _=>rfl)
  (fun pre W=>(Blk W w.heap.size #[.string s.name,s.eps,s.floor,s.last,s.scale,.slice ps s.segs.length cs,.slice po s.opn.length co] 25/\Blk W (w.heap.size+1) #[.int .i64 (Ms s.floor pre)] 3)/\Below w.heap.size w W)
  (fun _ _ _=>False)
  (OwnFrom.and (OwnFrom.and (Own.from (D0 _ _ _) _) (Own.from (D0 _ _ _) _)) (ownFrom_below (Nat.le_refl _) (by omega)))
  (fun _ _ _ _ _ hs _ _=>hs)
  ⟨⟨b1,b2⟩,hW0⟩
  (fun x=> {tmps:= #[.agg #[.string s.name,s.eps,s.floor,s.last,s.scale,.slice ps s.segs.length cs,.slice po s.opn.length co],.pointer (some ⟨w.heap.size,0,none⟩),.int .i64 0,.pointer (some ⟨w.heap.size+1,0,none⟩),x,.agg #[.string s.name,s.eps,s.floor,s.last,s.scale,.slice ps s.segs.length cs,.slice po s.opn.length co],.func (.func 113) #[] #[.pointer (some ⟨w.heap.size+1+1,0,none⟩)],x,undef,undef,undef,undef,undef,undef,undef],defers:= []}) ?assign ?body ?done ?stop
 case assign=>
  intro l x W K hK
  gi_wp2
  exact hK
 case body=>
  rintro l pre x W ⟨⟨i1,i2⟩,i3⟩ hlt
  have hz:=i3.size
  have y1:=i1.lt
  have y2:=i2.lt
  have k1:=i1.cell
  have f1:=i1.frozen
  have k2:=i2.cell
  have f2:=i2.frozen
  have hb:=keptL_le s.floor pre
  have h9:pre.length<25700:=by have:=hfew.out;omega
  by_cases hx:s.floor<=x
  ·have e:=Hd (keptL_in pre hx)
   gi_wp2
   exact⟨KeepsOthers.from (Dr) _,kfAny,⟨⟨Ab,by rw[e.out];exact Ab⟩,Aa⟩⟩
  ·have e:=Hd (Xw pre hx)
   have hx':x<s.floor:=by omega
   gi_wp2
   exact⟨KeepsOthers.from (Dr) _,kfAny,⟨⟨Ab,by rw[e.out];exact Ab⟩,Aa⟩⟩
 case done=>
  rintro D ys W hD rfl ⟨⟨i1,i2⟩,i3⟩ hK
  have k2:=i2.cell
  gi_wp2
  refine⟨by simp,.inl ⟨_,_,rfl,run_takeDeferred hK,?_⟩⟩
  exact⟨_,results_tmp rfl _ _ _,rfl,i3.trans (belowK_b (w:=w) (Nat.le_refl _) W D _ _ (by omega) hK rfl rfl)⟩
 case stop=>
  rintro D c pre W _ _ h _
  exact h.elim
theorem c_srKept (s:A3) (ps po:Option Addr) (cs co:Nat) (w:World) (hin:A9 w s ps po) (hv:∀x,x∈s.segs->Cw x=true):
  Cb 57 #[.agg (Cd s ps cs po co)] w (.int .i64 (Po s)):=callsIn_wide.1 (kept_in s ps po cs co w hin hv)
end Go.Proofs.YtidfcoooccblaaaGreat
