/- Parts of the proof that follows. No condition. -/
import Derived.Laws.CopyOwn
import Derived.Laws.MakeOwn
import Derived.Test.YtidfcoooccblaaaGreatBon4
set_option maxRecDepth 100000
set_option maxHeartbeats 8000000
set_option linter.unusedSimpArgs false
set_option linter.unusedVariables false
namespace Go.Proofs.YtidfcoooccblaaaGreat
open Go.RowKit
section
variable (P:Program)
theorem R5 (w:World) (dT sT ty elem:TypeId) (k g dLen dCap:Nat) (a:Addr) (sLen sCap:Nat) (cur:Array Value) (t:TypeId) (cs:List Value)
  (hu:P.underlying dT=some (.slice elem)) (hs:(P.info? elem).map (·.size)=some k)
  (hg:w.heap[g]? =some (.cells cur t (0,0))) (hn:cs.length=Nat.min sLen dLen*k)
  (hsrc:∀j v,cs[j]? =some v->w.cell? (a.add j)=some v) (hfit:cs.length=cur.size) (h1:∀v∈cs,v.oneCell'=true):
  (Builtin.copy_ #[dT,sT] ty #[.slice (some ⟨g,0,none⟩) dLen dCap,.slice (some a) sLen sCap]).run P w=
   .ok (goInt (Nat.min sLen dLen)) (w.setRow g cs.toArray):=by
 have hl:=run_loadCells_list (P:=P) w a cs hsrc
 have hst:=run_storeCells_at P g 0 t cs 0 cur w hg (by omega) h1
 have e:cur.toList.take (0+0)++cs++cur.toList.drop (0+0+cs.length)=cs:=by
  have:cur.toList.drop cs.length= []:=List.drop_eq_nil_of_le (by simp[hfit])
  simp[this]
 rw[e] at hst
 cases hq:P.info? elem with
 |none=>simp[hq] at hs
 |some i=>
  have hi:i.size=k:=by simpa [hq] using hs
  have hm:k*min sLen dLen=cs.length:=by rw[hn,Nat.mul_comm]
  have hm':min sLen dLen*k=cs.length:=hn.symm
  simp[Builtin.copy_,run_underlying hu,Builtin.lenOf,Builtin.firstCells,sizeOf,typeInfo,hq,hi,hm,hm',hl,hst]
end
def Jt (l:List Ah) (a:Int):Int:=Dt l a
def Kk (l:List Ah) (a b:Int):Int:=if 281474976710656<=b then cnt l else if Dt l a<Dt l (b+1) then Dt l (b+1) else Dt l a
theorem clip_w (p:Option Addr) (cap:Nat) (l:List Ah) (a b:Int) (w:World) (hl:Ce l) (h:Ai w p l) (hb: -9223372036854775808<=b):
  Cb 189 #[.slice p l.length cap,a,b] w (.tuple #[.int .i64 (Jt l a),.int .i64 (Kk l a b)]):=by
 have hlen:=hl.few
 have c1:=fun W (hW:Below w.heap.size w W)=>Ls p cap l W (by omega) (h.below hW)
 rw[(D1 l).2 hl] at c1
 have c2:=fun W (hW:Below w.heap.size w W)=>below_w p cap l a W hl (h.below hW)
 unfold Jt Kk
 by_cases hm:281474976710656<=b
 ·rw[if_pos hm]
  have c3:=fun W (hW:Below w.heap.size w W)=>Yl p l.length cap l W rfl hl.few (h.below hW) (fun i r hr=>by have hh:=hl.each r (List.mem_of_getElem? hr);have:=hh.c0;have:=hh.c1;omega)
  rw[Hx] at c3
  generalize Dt l a=i at*
  clear hl
  have H_c1:=Hd c1
  clear c1
  have H_c2:=Hd c2
  clear c2
  have H_c3:=Hd c3
  clear c3
  go_enter Tryz.func189,Tryz.ntmps189
  go_wp2_with fail
  refine(H_c1.out _ (Aa)).mono ?_
  rintro e w1 ⟨rfl,hb1⟩
  have z2:=hb1.size
  try simp at z2
  refine Ae w w1 (Bz) ?_
  rintro hW z3 ⟨-⟩
  clear hb1
  go_wp2_with fail
  refine(H_c2.out _ (Aa)).mono ?_
  rintro e w4 ⟨rfl,hb4⟩
  have z5:=hb4.size
  try simp at z5
  refine Ae w w4 (Bz) ?_
  clear hW
  rintro hW z6 ⟨-⟩
  clear hb4
  go_wp2_with fail
  refine(H_c3.out _ (Aa)).mono ?_
  rintro e w7 ⟨rfl,hb7⟩
  have z8:=hb7.size
  try simp at z8
  refine Ae w w7 (Bz) ?_
  clear hW
  rintro hW z9 ⟨-⟩
  clear hb7
  go_wp2
  refine bodyPost_ret (by simp[results,Tryz.results189,go_sem]) rfl ⟨rfl,by exact Aa⟩
 ·rw[if_neg hm]
  have c3:=fun W (hW:Below w.heap.size w W)=>below_w p cap l (b+1) W hl (h.below hW)
  clear hl
  generalize Dt l a=i at*
  generalize Dt l (b+1)=j at*
  by_cases hij:i<j
  ·rw[if_pos hij]
   have H_c1:=Hd c1
   clear c1
   have H_c2:=Hd c2
   clear c2
   have H_c3:=Hd c3
   clear c3
   go_enter Tryz.func189,Tryz.ntmps189
   go_wp2_with fail
   refine(H_c1.out _ (Aa)).mono ?_
   rintro e w1 ⟨rfl,hb1⟩
   have z2:=hb1.size
   try simp at z2
   refine Ae w w1 (Bz) ?_
   rintro hW z3 ⟨-⟩
   clear hb1
   go_wp2_with fail
   refine(H_c2.out _ (Aa)).mono ?_
   rintro e w4 ⟨rfl,hb4⟩
   have z5:=hb4.size
   try simp at z5
   refine Ae w w4 (Bz) ?_
   clear hW
   rintro hW z6 ⟨-⟩
   clear hb4
   go_wp2_with fail
   refine(H_c3.out _ (Aa)).mono ?_
   rintro e w7 ⟨rfl,hb7⟩
   have z8:=hb7.size
   try simp at z8
   refine Ae w w7 (Bz) ?_
   clear hW
   rintro hW z9 ⟨-⟩
   clear hb7
   go_wp2
   refine bodyPost_ret (by simp[results,Tryz.results189,go_sem]) rfl ⟨rfl,by exact Aa⟩
  ·rw[if_neg hij]
   have H_c1:=Hd c1
   clear c1
   have H_c2:=Hd c2
   clear c2
   have H_c3:=Hd c3
   clear c3
   go_enter Tryz.func189,Tryz.ntmps189
   go_wp2_with fail
   refine(H_c1.out _ (Aa)).mono ?_
   rintro e w1 ⟨rfl,hb1⟩
   have z2:=hb1.size
   try simp at z2
   refine Ae w w1 (Bz) ?_
   rintro hW z3 ⟨-⟩
   clear hb1
   go_wp2_with fail
   refine(H_c2.out _ (Aa)).mono ?_
   rintro e w4 ⟨rfl,hb4⟩
   have z5:=hb4.size
   try simp at z5
   refine Ae w w4 (Bz) ?_
   clear hW
   rintro hW z6 ⟨-⟩
   clear hb4
   go_wp2_with fail
   refine(H_c3.out _ (Aa)).mono ?_
   rintro e w7 ⟨rfl,hb7⟩
   have z8:=hb7.size
   try simp at z8
   refine Ae w w7 (Bz) ?_
   clear hW
   rintro hW z9 ⟨-⟩
   clear hb7
   go_wp2
   refine bodyPost_ret (by simp[results,Tryz.results189,go_sem]) rfl ⟨rfl,by exact Aa⟩
theorem placed_w (p:Option Addr) (cap:Nat) (l:List Ah) (i j:Int) (w:World) (hl:Ce l) (h:Ai w p l) (h0:0<=i) (h1:i<j) (h2:j<=cnt l):
  Cb 231 #[.slice p l.length cap,i,j] w (.int .i64 0):=by
 have hlen:=hl.few
 have c1:=fun W (hW:Below w.heap.size w W)=>Ls p cap l W (by omega) (h.below hW)
 rw[(D1 l).2 hl] at c1
 have c2:=fun W (hW:Below w.heap.size w W)=>Yl p l.length cap l W rfl hl.few (h.below hW) (fun i r hr=>by have hh:=hl.each r (List.mem_of_getElem? hr);have:=hh.c0;have:=hh.c1;omega)
 rw[Hx] at c2
 clear hl
 have H_c1:=Hd c1
 clear c1
 have H_c2:=Hd c2
 clear c2
 go_enter Tryz.func231,Tryz.ntmps231
 go_wp2_with fail
 refine(H_c1.out _ (Aa)).mono ?_
 rintro e w1 ⟨rfl,hb1⟩
 have z2:=hb1.size
 try simp at z2
 refine Ae w w1 (Bz) ?_
 rintro hW z3 ⟨-⟩
 clear hb1
 go_wp2_with fail
 refine(H_c2.out _ (Aa)).mono ?_
 rintro e w4 ⟨rfl,hb4⟩
 have z5:=hb4.size
 try simp at z5
 refine Ae w w4 (Bz) ?_
 clear hW
 rintro hW z6 ⟨-⟩
 clear hb4
 go_wp2
 refine bodyPost_ret (by simp[results,Tryz.results231,go_sem]) rfl ⟨rfl,by exact Aa⟩
def mx (x y:Int):Int:=if y>x then y else x
def mn (x y:Int):Int:=if y<x then y else x
theorem L4 (x y:Int):x<=mx x y/\y<=mx x y/\(mx x y=x∨mx x y=y):=by unfold mx;split<;>omega
theorem Hr (x y:Int):mn x y<=x/\mn x y<=y/\(mn x y=x∨mn x y=y):=by unfold mn;split<;>omega
def Gx (r:Ah) (i j:Int):List Ah:=if mx i 0<mn j r.c then [⟨r.f+r.s*mx i 0,r.s,mn j r.c-mx i 0⟩] else []
def Aw:List Ah->Int->Int->List Ah
 | [],_,_=> []
 |r::l,i,j=>Gx r i j++Aw l (i-r.c) (j-r.c)
theorem Qo (a b:List Ah):∀(i j:Int),Aw (a++b) i j=Aw a i j++Aw b (i-cnt a) (j-cnt a):=by
 induction a with
 |nil=>intro i j;simp[Aw,cnt]
 |cons r a ih=>
  intro i j
  simp only[List.cons_append,Aw,ih,cnt,List.append_assoc]
  rw[show i-r.c-cnt a=i-(r.c+cnt a) by omega,show j-r.c-cnt a=j-(r.c+cnt a) by omega]
theorem Tp {l:List Ah} {k:Nat} {r:Ah} (hr:l[k]? =some r) (i j:Int):Aw (l.take (k+1)) i j=Aw (l.take k) i j++Gx r (i-cnt (l.take k)) (j-cnt (l.take k)):=by
 rw[List.getElem?_eq_some_iff] at hr
 obtain⟨hi,rfl⟩:=hr
 rw[List.take_succ_eq_append_getElem hi,Qo]
 simp[Aw]
theorem cnt_take {l:List Ah} {k:Nat} {r:Ah} (hr:l[k]? =some r):cnt (l.take (k+1))=cnt (l.take k)+r.c:=by
 rw[List.getElem?_eq_some_iff] at hr
 obtain⟨hi,rfl⟩:=hr
 rw[List.take_succ_eq_append_getElem hi,Ge]
 simp[cnt]
theorem Pk {l:List Ah} (h:∀r,r∈l->Fb r) (k:Nat):0<=cnt (l.take k)/\cnt (l.take k)<=cnt l:=by
 have a:=Hi (l.take k) fun r hr=>h r (List.mem_of_mem_take hr)
 have b:=Hi (l.drop k) fun r hr=>h r (List.mem_of_mem_drop hr)
 have e:=Ge (l.take k) (l.drop k)
 rw[List.take_append_drop] at e
 omega
theorem Qx (r:Ah) (i j:Int):(Gx r i j).length<=1:=by unfold Gx;split<;>simp
theorem F5 :∀(l:List Ah) (i j:Int),(Aw l i j).length<=l.length
 | [],_,_=>by simp[Aw]
 |r::l,i,j=>by
  simp only[Aw,List.length_append,List.length_cons]
  have:=Qx r i j
  have:=F5 l (i-r.c) (j-r.c)
  omega
def As:List Ah->List Value
 | []=> []
 |r::l=> .int .i64 r.f:: .int .i64 r.s:: .int .i64 r.c::As l
def Ck (l:List Ah):Array Value:=(As l).toArray
theorem Ds :∀l,(As l).length=l.length*3
 | []=>rfl
 |r::l=>by simp only[As,List.length_cons,Ds l];omega
theorem Ny :∀(l:List Ah) (i:Nat) (r:Ah),l[i]? =some r->(As l)[i*3]? =some (r.f)/\(As l)[i*3+1]? =some (r.s)/\(As l)[i*3+2]? =some (r.c)
 | [],i,r,h=>by simp at h
 |a::l,0,r,h=>by
  simp at h
  subst h
  simp[As]
 |a::l,i+1,r,h=>by
  have:=Ny l i r (by simpa using h)
  rw[show (i+1)*3=i*3+3 by omega]
  simpa [As] using this
theorem V7 :∀(l:List Ah) (i:Nat) (r:Ah),i<l.length->(((As l).set (i*3) (r.f)).set (i*3+1) (r.s)).set (i*3+2) (r.c)=As (l.set i r)
 | [],i,r,h=>by simp at h
 |a::l,0,r,h=>by simp[As]
 |a::l,i+1,r,h=>by
  have:=V7 l i r (by simpa using h)
  rw[show (i+1)*3=i*3+3 by omega]
  simpa [As] using this
theorem row_set (l:List Ah) (i:Nat) (r:Ah) (h:i<l.length):(((Ck l).setIfInBounds (i*3) (r.f)).setIfInBounds (i*3+1) (r.s)).setIfInBounds (i*3+2) (r.c)=Ck (l.set i r):=by
 unfold Ck
 simp only[List.setIfInBounds_toArray]
 rw[V7 l i r h]
theorem Q4 :∀(l:List Ah) (v:Value),v∈As l->∃x,v= .int .i64 x
 | [],v,h=>by simp[As] at h
 |r::l,v,h=>by
  simp only[As,List.mem_cons] at h
  rcases h with rfl|rfl|rfl|h
  ·exact⟨_,rfl⟩
  ·exact⟨_,rfl⟩
  ·exact⟨_,rfl⟩
  ·exact Q4 l v h
theorem flat_at' (l:List Ah) (j:Nat) (v:Value) (h:(As l)[j]? =some v):∃i r,l[i]? =some r/\((j=i*3/\v=r.f)∨(j=i*3+1/\v=r.s)∨(j=i*3+2/\v=r.c)):=by
 have hlt:j<l.length*3:=by
  rw[List.getElem?_eq_some_iff] at h
  rw[<-Ds];exact h.1
 have hi:j/3<l.length:=by omega
 refine⟨j/3,l[j/3],List.getElem?_eq_getElem hi,?_⟩
 obtain⟨a,b,c⟩:=Ny l (j/3) _ (List.getElem?_eq_getElem hi)
 have hm:j%3=0∨j%3=1∨j%3=2:=by omega
 rcases hm with m|m|m
 ·left
  have e:j=j/3*3:=by omega
  rw[<-e,h] at a
  exact⟨e,by simpa using a⟩
 ·right;left
  have e:j=j/3*3+1:=by omega
  rw[<-e,h] at b
  exact⟨e,by simpa using b⟩
 ·right;right
  have e:j=j/3*3+2:=by omega
  rw[<-e,h] at c
  exact⟨e,by simpa using c⟩
theorem Ai.of_blk {w:World} {g:Nat} {l:List Ah} {t:TypeId} (h:Blk w g (Ck l) t) (d m:List Ah) (e:l=d++m):Ai w (some ⟨g,0,none⟩) d:=⟨fun i r hr=>by
 subst e
 have hr':(d++m)[i]? =some r:=by
  rw[List.getElem?_append_left]
  ·exact hr
  ·rw[List.getElem?_eq_some_iff] at hr;exact hr.1
 obtain⟨a,b,c⟩:=Ny _ i r hr'
 have k:=h.cell
 refine⟨g,0,rfl,?_,?_,?_⟩
 ·rw[k];simpa [Ck] using a
 ·rw[k];simpa [Ck] using b
 ·rw[k];simpa [Ck] using c⟩
theorem Ai.flat {w:World} {a:Addr} {l:List Ah} (h:Ai w (some a) l) (j:Nat) (v:Value) (hv:(As l)[j]? =some v):w.cell? (a.add j)=some v:=by
 obtain⟨i,r,hr,h'⟩:=flat_at' l j v hv
 obtain⟨b,o,e,c0,c1,c2⟩:=h.at' i r hr
 simp at e
 subst e
 have hadd:(⟨b,o,none⟩:Addr).add j=⟨b,o+j,none⟩:=by unfold Addr.add;split<;>simp_all
 rw[hadd]
 rcases h' with⟨rfl,rfl⟩|⟨rfl,rfl⟩|⟨rfl,rfl⟩
 ·exact c0
 ·exact c1
 ·exact c2
theorem Tryz.infoRun :(Tryz.prog.info? 144).map (fun i=>(i.zero,i.size,i.bytes))=some (some (.agg #[.int .i64 0,.int .i64 0,.int .i64 0]),3,24):=by kernel_rfl
theorem make_runs (n:Nat) (hn:n<=256):∃C:Array Value,C.size=n*3/\∀W,(Instr.makeSlice 93 (.int .i64 (n:Int)) (.int .i64 (n:Int))).run Tryz.prog W= .ok (.slice (some ⟨W.heap.size,0,none⟩) n n) (W.alloc (.cells C 144)):=by
 obtain⟨i,hi,hz0,hz1,hz2⟩:=info_parts Tryz.infoRun
 refine⟨madeCells #[.int .i64 0,.int .i64 0,.int .i64 0] (n*3),?_,fun W=> ?_⟩
 rotate_left
 ·have:=run_make (P:=Tryz.prog) W 93 144 i _ rfl hi hz0 .i64 .i64 (n:Int) (n:Int) (by omega) (by omega) (by rw[hz2];omega) (by omega)
  simpa [hz1,Value.cells] using this
 ·simp[size_madeCells]
attribute [local simp] Oper.looksAt Op.operands Call.operands Aj Det Ao
theorem Blk.write3 {W:World} {g n:Nat} {L:List Ah} {t:TypeId} {r:Ah} (h:Blk W g (Ck L) t) (hn:n<L.length) (L':List Ah) (e:L.set n r=L'):
  Blk (((W.setCell ⟨g,n*3,none⟩ (r.f)).setCell ⟨g,n*3+1,none⟩ (r.s)).setCell ⟨g,n*3+2,none⟩ (r.c)) g (Ck L') t:=by
 subst e
 rw[<-row_set L n r hn]
 exact((h.set _ _).set _ _).set _ _
theorem Blk.three {W:World} {g n:Nat} {L:List Ah} {t:TypeId} (h:Blk W g (Ck L) t) (hn:n<L.length):
  ∃a b c,W.cell? ⟨g,n*3,none⟩=some a/\W.cell? ⟨g,n*3+1,none⟩=some b/\W.cell? ⟨g,n*3+2,none⟩=some c:=by
 obtain⟨a,b,c⟩:=Ny L n _ (List.getElem?_eq_getElem hn)
 have k:=h.cell
 exact⟨.int .i64 L[n].f,.int .i64 L[n].s,.int .i64 L[n].c,by rw[k];simpa [Ck] using a,by rw[k];simpa [Ck] using b,by rw[k];simpa [Ck] using c⟩
theorem set_here {D l:List Ah} (r:Ah) (h:D.length<l.length):(D++l.drop D.length).set D.length r=D++ [r]++l.drop (D.length+1):=by
 rw[List.set_append_right _ _ (Nat.le_refl _),Nat.sub_self,List.drop_eq_getElem_cons h,List.set_cons_zero,List.append_assoc]
 rfl
def Ly (p:Option Addr) (cap:Nat) (l:List Ah) (i j:Int) (w:World) (a':Act) (W:World):Prop:=
 Below w.heap.size w W/\∃k:Nat,(∃u:Nat->Value,a'= {tmps:= #[(.slice p l.length cap),.int .i64 (i-cnt (l.take k)),.int .i64 (j-cnt (l.take k)),u 3,u 4,u 5,u 6,.slice (some ⟨w.heap.size,0,none⟩) l.length l.length,.int .i64 ((Aw (l.take k) i j).length:Int),u 9,u 10,u 11,u 12,u 13,u 14,u 15,u 16,u 17,u 18,(.slice p l.length cap),.int .i64 (l.length:Int),.int .i64 (k:Int),u 22,u 23,u 24,u 25,u 26,u 27,u 28,u 29,u 30,u 31,u 32,u 33,u 34,u 35,u 36,u 37,u 38,u 39,u 40,u 41,u 42,u 43,u 44,u 45,u 46,u 47,u 48,u 49,u 50,u 51,u 52,u 53,u 54,u 55,u 56,u 57,u 58,u 59,u 60,u 61,u 62,u 63,u 64],defers:= []})/\k<=l.length/\Blk W w.heap.size (Ck (Aw (l.take k) i j++l.drop (Aw (l.take k) i j).length)) 144
theorem pieces_w (a:Addr) (cap:Nat) (l:List Ah) (i j:Int) (w:World) (hl:Ce l) (h:Ai w (some a) l) (hi0:0<=i) (hij:i<j) (hj:j<=cnt l):
  Calls Tryz.prog 232 #[.slice (some a) l.length cap,i,j] w fun e w'=>
   e= .returned (.slice (some ⟨w.heap.size,0,none⟩) (Aw l i j).length (Aw l i j).length)/\Below w.heap.size w w'/\Ai w' (some ⟨w.heap.size,0,none⟩) (Aw l i j):=by
 have hlen:=hl.few
 have hcnt:=hl.count
 obtain⟨C,hC,hmk⟩:=make_runs l.length hlen
 go_enter Tryz.func232,Tryz.ntmps232
 go_upto_region 2 with(fail)
 refine A9 (fun W'=>Below w.heap.size w W'/\Blk W' w.heap.size C 144) ⟨Aa,A3⟩ ?_
 rintro W1 ⟨hW,b1⟩
 have z1:=hW.size
 have z2:=b1.lt
 have hcp:=R5 Tryz.prog W1 93 93 3 144 3 w.heap.size l.length l.length a l.length cap C 144 (As l) (by kernel_rfl) (by kernel_rfl) b1 (by rw[Ds];simp) (h.below hW).flat (by rw[Ds,hC]) (fun v hv=>by obtain⟨x,rfl⟩:=Q4 l v hv;rfl)
 rw[show Nat.min l.length l.length=l.length from Nat.min_self _] at hcp
 go_upto_region 4 with(fail)
 clear hcp hmk
 refine A9 (fun W'=>Below w.heap.size w W'/\Blk W' w.heap.size (Ck l) 144) ⟨below_setRow hW (Nat.le_refl _) _,setRow_heap W1 _ _ _ _ (0,0) b1⟩ ?_
 clear hW b1 z1 z2
 rintro W2 ⟨hW,b1⟩
 have z1:=hW.size
 have z2:=b1.lt
 go_wp2
 refine wp_loop (Ly (some a) cap l i j w) (fun a' _=>l.length-(Ak (a'.tmps.getD 21 undef)).toNat) ?_ ?_
 ·unfold Ly
  refine⟨hW,0,Ac ?_,by omega,by simpa [Aw] using b1⟩
  simp[cnt,Aw]
 ·clear hW b1 z1 z2
  rintro a' W ⟨hW,k,⟨u,rfl⟩,hk,b1⟩
  have hz:=hW.size
  have hz1:=b1.lt
  rcases Nat.lt_or_ge k l.length with hlt|hge
  ·obtain⟨r,hri⟩:∃r,l[k]? =some r:=⟨l[k]'(by omega),List.getElem?_eq_getElem (by omega)⟩
   have hr:=hl.each r (List.mem_of_getElem? hri)
   obtain⟨b,o,ha,k0,k1,k2⟩:=(h.below hW).at' k r hri
   cases ha
   obtain⟨t0,t1⟩:=Pk hl.each k
   have t2:=cnt_take hri
   obtain⟨t3,t4⟩:=Pk hl.each (k+1)
   have hp:=F5 (l.take k) i j
   have hp':(l.take k).length<=k:=by simp;omega
   have hP:=Hd (Tp hri i j)
   have r1:=hr.f0;have r2:=hr.f1;have r3:=hr.s0;have r4:=hr.s1;have r5:=hr.c0;have r6:=hr.c1;have r7:=Jn hr;have r8:=hr.last
   generalize hD:Aw (l.take k) i j=D at*
   generalize hi':i-cnt (l.take k)=i' at*
   generalize hj':j-cnt (l.take k)=j' at*
   obtain⟨x1,x2,-⟩:=L4 i' 0
   obtain⟨y1,y2,-⟩:=Hr j' r.c
   have E1:=Hd (show wrap64 (i'-r.c)=i'-r.c by rw[Al];omega)
   have E2:=Hd (show wrap64 (j'-r.c)=j'-r.c by rw[Al];omega)
   have E3:=Hd (show i'-r.c=i-cnt (l.take (k+1)) by omega)
   have E4:=Hd (show j'-r.c=j-cnt (l.take (k+1)) by omega)
   replace hri:=Hd hri
   go_upto_region 7 with(fail)
   refine Ad w (Bc w.heap.size (Ck (D++l.drop D.length)) 144<|Bc W.heap.size #[r.f,r.s,r.c] 144<|Bz) ?_
   clear b1 hW
   rintro W1 hW z2 ⟨⟨b1,yb1,k1,f1⟩,⟨b2,yb2,k2,f2⟩,-⟩
   refine An 8 65 [] (fun W'=>Rex [] W1 W'/\Blk W' w.heap.size (Ck (D++l.drop D.length)) 144/\Blk W' W.heap.size #[r.f,r.s,r.c] 144) Cd (by kernel_rfl) rfl ⟨(Rex.refl _ _).drew,b1,b2⟩ (fun w w' ⟨h0,h1,h2⟩ hr=>⟨h0.trans hr,h1.rex hr (by simp<;>omega),h2.rex hr (by simp<;>omega)⟩) (fun c a d v w h=>by cases d<;>exact h) ?_
   iterate 1
    apply Ag (hg:=rfl) (hal:=rfl)
    ·intro a W' hC hE
     obtain⟨_,k1,k2⟩:=hC
     have k2:=k2.cell
     first
      |(simp at hE;simp[go_sem,Act.eval,iw,hE,k2];try rfl)
      |(clear hE;simp[go_sem,Act.eval,iw,k2];try rfl)
   apply Ag (c:= .int .i64 (mx i' 0)) (hg:=rfl) (hal:=rfl)
   ·intro a W' hC hE
    simp at hE
    simp[go_sem,Act.eval,hE,mx,mn]
   iterate 3
    apply Ag (hg:=rfl) (hal:=rfl)
    ·intro a W' hC hE
     obtain⟨_,k1,k2⟩:=hC
     have k2:=k2.cell
     first
      |(simp at hE;simp[go_sem,Act.eval,iw,hE,k2];try rfl)
      |(clear hE;simp[go_sem,Act.eval,iw,k2];try rfl)
   apply Ag (c:= .int .i64 (mn j' r.c)) (hg:=rfl) (hal:=rfl)
   ·intro a W' hC hE
    simp at hE
    simp[go_sem,Act.eval,hE,mx,mn]
   iterate 2
    apply Ag (hg:=rfl) (hal:=rfl)
    ·intro a W' hC hE
     obtain⟨_,k1,k2⟩:=hC
     have k2:=k2.cell
     first
      |(simp at hE;simp[go_sem,Act.eval,iw,hE,k2];try rfl)
      |(clear hE;simp[go_sem,Act.eval,iw,k2];try rfl)
   rintro W3 ⟨hR,d1,d2⟩
   simp only[Ar,Det,forall_eq]
   intros
   repeat (rename Ao _ _ _ _=>hgd;clear hgd)
   simp only[nS]
   refine wpList_nil ?_
   replace hW:=hW.trans (hR.of_priv hW.size)
   clear hR b1 b2
   have b1:=d1
   clear d1
   have b2:=d2
   clear d2
   by_cases hm:mx i' 0<mn j' r.c
   ·have m0:0<=r.s*mx i' 0:=Int.mul_nonneg r3 x2
    have m1:r.f+r.s*mx i' 0<=Cs r:=G7 hr (by omega)
    have eD:Aw (l.take (k+1)) i j=D++ [⟨r.f+r.s*mx i' 0,r.s,mn j' r.c-mx i' 0⟩]:=by rw[hP.out];unfold Gx;rw[if_pos hm]
    have eL:=set_here (⟨r.f+r.s*mx i' 0,r.s,mn j' r.c-mx i' 0⟩:Ah) (show D.length<l.length by omega)
    replace eL:=Hd eL
    replace eD:=Hd eD
    obtain⟨v0,v1,v2,q0,q1,q2⟩:=b1.three (n:=D.length) (by simp;omega)
    have f1:=b1.frozen
    have k2:=b2.cell
    have f2:=b2.frozen
    go_upto_region 11 with(fail)
    clear q0 q1 q2 f1 k2 f2
    refine A9 (fun W'=>Below w.heap.size w W'/\Blk W' w.heap.size (Ck (Aw (l.take (k+1)) i j++l.drop (Aw (l.take (k+1)) i j).length)) 144/\Blk W' W.heap.size #[r.f,r.s,r.c] 144) ⟨Aa,?_,A3⟩ ?_
    ·rw[eD.out,List.length_append,List.length_singleton]
     have t:=b1.write3 (n:=D.length) (by simp;omega) _ eL.out
     dsimp only at t
     exact t
    have hL:(D.length:Int)+1=((Aw (l.take (k+1)) i j).length:Int):=by rw[eD.out];simp
    replace hL:=Hd hL
    clear b1 b2 hW
    rintro W8 ⟨hW,b1,b2⟩
    have z8:=hW.size
    have z9:=b1.lt
    have z10:=b2.lt
    refine An 10 65 [] (fun W'=>Rex [] W8 W'/\Blk W' w.heap.size (Ck (Aw (l.take (k+1)) i j++l.drop (Aw (l.take (k+1)) i j).length)) 144/\Blk W' W.heap.size #[r.f,r.s,r.c] 144) Cd (by kernel_rfl) rfl ⟨(Rex.refl _ _).drew,b1,b2⟩ (fun w w' ⟨h0,h1,h2⟩ hr=>⟨h0.trans hr,h1.rex hr (by simp<;>omega),h2.rex hr (by simp<;>omega)⟩) (fun c a d v w h=>by cases d<;>exact h) ?_
    iterate 10
     apply Ag (hg:=rfl) (hal:=rfl)
     ·intro a W' hC hE
      obtain⟨_,k1,k2⟩:=hC
      have k2:=k2.cell
      first
       |(simp at hE;simp[go_sem,Act.eval,iw,hE,k1,k2,E1.out,E2.out];try rfl)
       |(clear hE;simp[go_sem,Act.eval,iw,k1,k2,E1.out,E2.out];try rfl)
    rintro W4 ⟨hR,d1,d2⟩
    simp only[Ar,Det,forall_eq]
    intros
    repeat (rename Ao _ _ _ _=>hgd;clear hgd)
    simp only[nS]
    refine wpList_nil ?_
    replace hW:=hW.trans (hR.of_priv hW.size)
    clear hR b1 b2
    go_wp2
    rw[E3.out,E4.out,hL.out,show (k:Int)+1=((k+1:Nat):Int) by omega]
    refine⟨?_,by simp[Ak];omega⟩
    unfold Ly
    exact⟨hW,k+1,Ac rfl,by omega,d1⟩
   ·have eD:Aw (l.take (k+1)) i j=D:=by rw[hP.out];unfold Gx;rw[if_neg hm,List.append_nil]
    replace eD:=Hd eD
    have k1:=b1.cell
    have f1:=b1.frozen
    have k2:=b2.cell
    have f2:=b2.frozen
    go_upto_region 11 with(fail)
    clear k1 f1 k2 f2
    refine A9 (fun W'=>Below w.heap.size w W'/\Blk W' w.heap.size (Ck (Aw (l.take (k+1)) i j++l.drop (Aw (l.take (k+1)) i j).length)) 144/\Blk W' W.heap.size #[r.f,r.s,r.c] 144) ⟨Aa,by rw[eD.out];exact b1,A3⟩ ?_
    have hL:(D.length:Int)=((Aw (l.take (k+1)) i j).length:Int):=by rw[eD.out]
    replace hL:=Hd hL
    clear b1 b2 hW
    rintro W8 ⟨hW,b1,b2⟩
    have z8:=hW.size
    have z9:=b1.lt
    have z10:=b2.lt
    refine An 10 65 [] (fun W'=>Rex [] W8 W'/\Blk W' w.heap.size (Ck (Aw (l.take (k+1)) i j++l.drop (Aw (l.take (k+1)) i j).length)) 144/\Blk W' W.heap.size #[r.f,r.s,r.c] 144) Cd (by kernel_rfl) rfl ⟨(Rex.refl _ _).drew,b1,b2⟩ (fun w w' ⟨h0,h1,h2⟩ hr=>⟨h0.trans hr,h1.rex hr (by simp<;>omega),h2.rex hr (by simp<;>omega)⟩) (fun c a d v w h=>by cases d<;>exact h) ?_
    iterate 10
     apply Ag (hg:=rfl) (hal:=rfl)
     ·intro a W' hC hE
      obtain⟨_,k1,k2⟩:=hC
      have k2:=k2.cell
      first
       |(simp at hE;simp[go_sem,Act.eval,iw,hE,k1,k2,E1.out,E2.out];try rfl)
       |(clear hE;simp[go_sem,Act.eval,iw,k1,k2,E1.out,E2.out];try rfl)
    rintro W4 ⟨hR,d1,d2⟩
    simp only[Ar,Det,forall_eq]
    intros
    repeat (rename Ao _ _ _ _=>hgd;clear hgd)
    simp only[nS]
    refine wpList_nil ?_
    replace hW:=hW.trans (hR.of_priv hW.size)
    clear hR b1 b2
    go_wp2
    rw[E3.out,E4.out,hL.out,show (k:Int)+1=((k+1:Nat):Int) by omega]
    refine⟨?_,by simp[Ak];omega⟩
    unfold Ly
    exact⟨hW,k+1,Ac rfl,by omega,d1⟩
  ·have e:k=l.length:=by omega
   subst e
   rw[List.take_length] at b1⊢
   have hlp:=F5 l i j
   have k1:=b1.cell
   have f1:=b1.frozen
   go_wp2
   go_ret
   exact⟨rfl,hW,Ai.of_blk b1 (Aw l i j) _ rfl⟩
end Go.Proofs.YtidfcoooccblaaaGreat
namespace Go.Proofs.YtidfcoooccblaaaGreat
open Go.RowKit
def PiecesOut (w:World) (l:List Ah) (v:Value) (w':World):Prop:=∃g,v= .slice (some ⟨g,0,none⟩) l.length l.length/\w.heap.size<=g/\Ai w' (some ⟨g,0,none⟩) l
theorem c_pieces (a:Addr) (cap:Nat) (l:List Ah) (i j:Int) (w:World) (hl:Ce l) (h:Ai w (some a) l) (hi0:0<=i) (hij:i<j) (hj:j<=cnt l):
  Calls Tryz.prog 216 #[.slice (some a) l.length cap,i,j] w fun e w'=>
   ∃g,w.heap.size<=g/\e= .returned (.tuple #[.slice (some ⟨g,0,none⟩) (Aw l i j).length (Aw l i j).length,.int .i64 0])/\Below w.heap.size w w'/\Ai w' (some ⟨g,0,none⟩) (Aw l i j):=by
 have c1:=fun W (hW:Below w.heap.size w W)=>placed_w (some a) cap l i j W hl (h.below hW) hi0 hij hj
 have H_c1:=Hd c1
 clear c1
 go_enter Tryz.func216,Tryz.ntmps216
 go_wp2_with fail
 refine(H_c1.out _ (Aa)).mono ?_
 rintro e w1 ⟨rfl,hb1⟩
 have z2:=hb1.size
 try simp at z2
 refine Ae w w1 (Bz) ?_
 rintro hW z3 ⟨-⟩
 clear hb1
 go_wp2_with fail
 refine(pieces_w a cap l i j _ hl (h.below hW) hi0 hij hj).mono ?_
 rintro e W5 ⟨rfl,hB,hR⟩
 go_wp2
 refine bodyPost_ret (v:= .tuple #[.slice (some ⟨_,0,none⟩) (Aw l i j).length (Aw l i j).length,.int .i64 0]) (by simp[results,Tryz.results216,go_sem]) rfl ⟨_,?_,rfl,Aa,hR⟩
 assumption
structure Au (w:World) (p:Option Addr) (l:List Int):Prop where
 at':∀(i:Nat) (x:Int),l[i]? =some x->∃b o,p=some ⟨b,o,none⟩/\w.cell? ⟨b,o+i,none⟩=some (x)
theorem Au.below {w w':World} {p:Option Addr} {l:List Int} (h:Au w p l) (hb:Below w.heap.size w w'):Au w' p l:=⟨fun i r hr=>by
 obtain⟨b,o,e,h1⟩:=h.at' i r hr
 have hB:=(Fy hb).1
 exact⟨b,o,e,(hB b _ (A8 h1)).trans h1⟩⟩
theorem Au.drew {w:World} {p:Option Addr} {l:List Int} (h:Au w p l):Au w.drew p l:=⟨h.at'⟩
def Bh:List Int->Int
 | []=>0
 |x::l=>l.foldl mn x
def Bi:List Int->Int
 | []=>0
 |x::l=>l.foldl mx x
theorem minL_take {l:List Int} {i:Nat} {v:Int} (hv:l[i]? =some v) (hi:1<=i):Bh (l.take (i+1))=mn (Bh (l.take i)) v:=by
 rw[List.getElem?_eq_some_iff] at hv
 obtain⟨h,rfl⟩:=hv
 cases l with
 |nil=>simp at h
 |cons x l=>
  obtain⟨j,rfl⟩:∃j,i=j+1:=⟨i-1,by omega⟩
  have h':j<l.length:=by simpa using h
  rw[List.take_succ_cons,List.take_succ_cons,List.take_succ_eq_append_getElem h']
  simp only[Bh,List.foldl_append,List.foldl_cons,List.foldl_nil,List.getElem_cons_succ]
theorem maxL_take {l:List Int} {i:Nat} {v:Int} (hv:l[i]? =some v) (hi:1<=i):Bi (l.take (i+1))=mx (Bi (l.take i)) v:=by
 rw[List.getElem?_eq_some_iff] at hv
 obtain⟨h,rfl⟩:=hv
 cases l with
 |nil=>simp at h
 |cons x l=>
  obtain⟨j,rfl⟩:∃j,i=j+1:=⟨i-1,by omega⟩
  have h':j<l.length:=by simpa using h
  rw[List.take_succ_cons,List.take_succ_cons,List.take_succ_eq_append_getElem h']
  simp only[Bi,List.foldl_append,List.foldl_cons,List.foldl_nil,List.getElem_cons_succ]
def Tr (p:Option Addr) (cap:Nat) (l:List Int) (w:World) (a':Act) (W:World):Prop:=
 Below w.heap.size w W/\∃(i:Nat) (m:Int),(∃u:Nat->Value,a'= {tmps:= #[(.slice p l.length cap),u 1,u 2,m,.int .i64 (i:Int),u 5,u 6,u 7,u 8,u 9,u 10,u 11,u 12,u 13,u 14,u 15,u 16,u 17,u 18,u 19,u 20,u 21,u 22,u 23,u 24],defers:= []})/\1<=i/\i<=l.length/\m=Bh (l.take i)
theorem min_w (p:Option Addr) (cap:Nat) (l:List Int) (w:World) (h0:0<l.length) (hlen:l.length<=1000000) (h:Au w p l):
  Cb 221 #[.slice p l.length cap] w (.int .i64 (Bh l)):=by
 obtain⟨x,hx⟩:∃x,l[0]? =some x:=⟨l[0],List.getElem?_eq_getElem h0⟩
 obtain⟨b,o,hp,k0⟩:=h.at' 0 x hx
 subst hp
 rw[Nat.add_zero] at k0
 go_enter Tryz.func221,Tryz.ntmps221
 go_wp2
 clear k0
 refine wp_loop (Tr (some ⟨b,o,none⟩) cap l w) (fun a' _=>l.length-(Ak (a'.tmps.getD 4 undef)).toNat) ?_ ?_
 ·unfold Tr
  exact⟨Aa,1,x,Ac rfl,by omega,by omega,by cases l with|nil=>simp at hx|cons y l=>simp at hx;subst hx;simp[Bh]⟩
 ·rintro a' W ⟨hW,i,m,⟨u,rfl⟩,hi0,hi,hm⟩
  have hz:=hW.size
  replace hm:=Hd hm
  rcases Nat.lt_or_ge i l.length with hlt|hge
  ·obtain⟨v,hv⟩:∃v,l[i]? =some v:=⟨l[i],List.getElem?_eq_getElem hlt⟩
   obtain⟨b',o',e,k1⟩:=(h.below hW).at' i v hv
   cases e
   have hn:Bh (l.take (i+1))=mn m v:=by rw[hm.out];exact minL_take hv hi0
   replace hn:=Hd hn
   replace hv:=Hd hv
   by_cases hc:v<m
   ·have hm':mn m v=v:=by unfold mn;rw[if_pos hc]
    replace hm':=Hd hm'
    go_wp2
    rw[show (i:Int)+1=((i+1:Nat):Int) by omega]
    refine⟨?_,by simp[Ak];omega⟩
    unfold Tr
    exact⟨hW,i+1,v,Ac rfl,by omega,by omega,by rw[hn.out,hm'.out]⟩
   ·have hm':mn m v=m:=by unfold mn;rw[if_neg hc]
    replace hm':=Hd hm'
    go_wp2
    rw[show (i:Int)+1=((i+1:Nat):Int) by omega]
    refine⟨?_,by simp[Ak];omega⟩
    unfold Tr
    exact⟨hW,i+1,m,Ac rfl,by omega,by omega,by rw[hn.out,hm'.out]⟩
  ·have e:i=l.length:=by omega
   subst e
   have hm':=hm.out
   rw[List.take_length] at hm'
   replace hm':=Hd hm'
   go_wp2
   go_ret
   exact⟨Lu hm'.out,hW⟩
def Ts (p:Option Addr) (cap:Nat) (l:List Int) (w:World) (a':Act) (W:World):Prop:=
 Below w.heap.size w W/\∃(i:Nat) (m:Int),(∃u:Nat->Value,a'= {tmps:= #[(.slice p l.length cap),u 1,u 2,m,.int .i64 (i:Int),u 5,u 6,u 7,u 8,u 9,u 10,u 11,u 12,u 13,u 14,u 15,u 16,u 17,u 18,u 19,u 20,u 21,u 22,u 23,u 24],defers:= []})/\1<=i/\i<=l.length/\m=Bi (l.take i)
theorem max_w (p:Option Addr) (cap:Nat) (l:List Int) (w:World) (h0:0<l.length) (hlen:l.length<=1000000) (h:Au w p l):
  Cb 222 #[.slice p l.length cap] w (.int .i64 (Bi l)):=by
 obtain⟨x,hx⟩:∃x,l[0]? =some x:=⟨l[0],List.getElem?_eq_getElem h0⟩
 obtain⟨b,o,hp,k0⟩:=h.at' 0 x hx
 subst hp
 rw[Nat.add_zero] at k0
 go_enter Tryz.func222,Tryz.ntmps222
 go_wp2
 clear k0
 refine wp_loop (Ts (some ⟨b,o,none⟩) cap l w) (fun a' _=>l.length-(Ak (a'.tmps.getD 4 undef)).toNat) ?_ ?_
 ·unfold Ts
  exact⟨Aa,1,x,Ac rfl,by omega,by omega,by cases l with|nil=>simp at hx|cons y l=>simp at hx;subst hx;simp[Bi]⟩
 ·rintro a' W ⟨hW,i,m,⟨u,rfl⟩,hi0,hi,hm⟩
  have hz:=hW.size
  replace hm:=Hd hm
  rcases Nat.lt_or_ge i l.length with hlt|hge
  ·obtain⟨v,hv⟩:∃v,l[i]? =some v:=⟨l[i],List.getElem?_eq_getElem hlt⟩
   obtain⟨b',o',e,k1⟩:=(h.below hW).at' i v hv
   cases e
   have hn:Bi (l.take (i+1))=mx m v:=by rw[hm.out];exact maxL_take hv hi0
   replace hn:=Hd hn
   replace hv:=Hd hv
   by_cases hc:m<v
   ·have hm':mx m v=v:=by unfold mx;rw[if_pos hc]
    replace hm':=Hd hm'
    go_wp2
    rw[show (i:Int)+1=((i+1:Nat):Int) by omega]
    refine⟨?_,by simp[Ak];omega⟩
    unfold Ts
    exact⟨hW,i+1,v,Ac rfl,by omega,by omega,by rw[hn.out,hm'.out]⟩
   ·have hm':mx m v=m:=by unfold mx;rw[if_neg hc]
    replace hm':=Hd hm'
    go_wp2
    rw[show (i:Int)+1=((i+1:Nat):Int) by omega]
    refine⟨?_,by simp[Ak];omega⟩
    unfold Ts
    exact⟨hW,i+1,m,Ac rfl,by omega,by omega,by rw[hn.out,hm'.out]⟩
  ·have e:i=l.length:=by omega
   subst e
   have hm':=hm.out
   rw[List.take_length] at hm'
   replace hm':=Hd hm'
   go_wp2
   go_ret
   exact⟨Lu hm'.out,hW⟩
theorem c_sback (v:Int) (w:World):Cb 220 #[v] w (.bool (A6 v)):=by
 unfold A6
 go_enter Tryz.func220,Tryz.ntmps220
 go_upto_region 1 with(fail)
 refine Ad w (Bz) ?_
 rintro W1 hW z2 hL
 refine B3 7 9 hW hL ?_
 iterate 3 refine dA ?_
 iterate 2 refine gA ?_
 refine pA ?_
 refine dA ?_
 clear hW hL
 rintro W3 hW z4 hL
 simp only[ndR]
 intros
 repeat (rename Ao _ _ _ _=>hgd;clear hgd)
 simp only[ndS]
 refine wpList_nil ?_
 obtain⟨-⟩:=hL
 go_wp2
 refine bodyPost_ret (by simp[results,Tryz.results220,go_sem]) rfl ⟨rfl,by exact Aa⟩
theorem c_rawis1 (v:Int) (w:World):Cb 219 #[v] w (.bool (!A6 v)):=by
 have c1:=fun W=>c_sback v W
 have H_c1:=Hd c1
 clear c1
 go_enter Tryz.func219,Tryz.ntmps219
 go_wp2_with fail
 refine(H_c1.out _).mono ?_
 rintro e w1 ⟨rfl,hb1⟩
 have z2:=hb1.size
 try simp at z2
 refine Ae w w1 (Bz) ?_
 rintro hW z3 ⟨-⟩
 clear hb1
 go_wp2
 refine bodyPost_ret (by simp[results,Tryz.results219,go_sem]) rfl ⟨rfl,by exact Aa⟩
def Yz (p:Option Addr) (cap:Nat) (l:List Int) (w:World) (a':Act) (W:World):Prop:=
 Below w.heap.size w W/\∃i:Nat,(∃u:Nat->Value,a'= {tmps:= #[(.slice p l.length cap),.func (.func 219) #[] #[],u 2,u 3,u 4,u 5,(.slice p l.length cap),.int .i64 (l.length:Int),.int .i64 (i:Int),u 9,u 10,u 11,u 12,u 13,u 14,u 15,u 16,u 17,u 18],defers:= []})/\i<=l.length/\(l.take i).all A6=true
def IdxOut (l:List Int) (w:World) (e:Ending) (w':World):Prop:=∃r:Int,e= .returned (r)/\decide (0<=r)= !(l.all A6)/\ -1<=r/\Below w.heap.size w w'
theorem all_take {l:List Int} {i:Nat} {v:Int} (hv:l[i]? =some v) (h:(l.take i).all A6=true):(l.take (i+1)).all A6=A6 v:=by
 rw[List.getElem?_eq_some_iff] at hv
 obtain⟨hi,rfl⟩:=hv
 rw[List.take_succ_eq_append_getElem hi,List.all_append,h]
 simp
theorem all_false {l:List Int} {i:Nat} {v:Int} (hv:l[i]? =some v) (h:A6 v=false):l.all A6=false:=by
 rw[List.all_eq_false]
 exact⟨v,List.mem_of_getElem? hv,by simp[h]⟩
theorem index_w (p:Option Addr) (cap:Nat) (l:List Int) (w:World) (hlen:l.length<=1000000) (h:Au w p l):
  Calls Tryz.prog 237 #[.slice p l.length cap,.func (.func 219) #[] #[]] w (IdxOut l w):=by
 go_enter Tryz.func237,Tryz.ntmps237
 go_wp2
 refine wp_loop (Yz p cap l w) (fun a' _=>l.length-(Ak (a'.tmps.getD 8 undef)).toNat) ?_ ?_
 ·unfold Yz
  exact⟨Aa,0,Ac rfl,by omega,by simp⟩
 ·rintro a' W ⟨hW,i,⟨u,rfl⟩,hi,hm⟩
  have hz:=hW.size
  replace hm:=Hd hm
  rcases Nat.lt_or_ge i l.length with hlt|hge
  ·obtain⟨v,hv⟩:∃v,l[i]? =some v:=⟨l[i],List.getElem?_eq_getElem hlt⟩
   obtain⟨b',o',e,k1⟩:=(h.below hW).at' i v hv
   cases e
   have hn:=Hd (all_take hv hm.out)
   replace hv:=Hd hv
   go_wp2_with fail
   refine(c_rawis1 v _).mono ?_
   rintro e w4 ⟨rfl,hb4⟩
   have hz4:=hb4.size
   clear k1
   cases hb:A6 v with
   |true=>
    rw[hb] at hn
    go_wp2
    rw[show (i:Int)+1=((i+1:Nat):Int) by omega]
    refine⟨?_,by simp[Ak];omega⟩
    unfold Yz
    exact⟨Aa,i+1,Ac rfl,by omega,hn.out⟩
   |false=>
    have hf:=Hd (all_false hv.out hb)
    clear hn
    go_wp2
    go_ret
    exact⟨_,rfl,by rw[hf.out];simp,by omega,Aa⟩
  ·have e:i=l.length:=by omega
   subst e
   have hm':=hm.out
   rw[List.take_length] at hm'
   replace hm':=Hd hm'
   clear hm
   go_wp2
   go_ret
   exact⟨_,rfl,by rw[hm'.out];simp,by omega,hW⟩
theorem Zk (p:Option Addr) (cap:Nat) (l:List Int) (w:World) (hlen:l.length<=1000000) (h:Au w p l):
  Cb 218 #[.slice p l.length cap,.func (.func 219) #[] #[]] w (.bool (!(l.all A6))):=by
 go_enter Tryz.func218,Tryz.ntmps218
 go_wp2_with fail
 refine(index_w p cap l _ hlen h).mono ?_
 rintro e w4 ⟨r,rfl,hr,hr1,hb4⟩
 have hr':=Hd hr
 clear hr
 go_wp2
 go_ret
 exact⟨by rw[<-hr'.out];rfl,hb4⟩
theorem span_w (K A R n d E:Int) (p q:Option Addr) (len cap m vc:Nat) (w:World) (x y N:Int) (hx:0<=x/\x<=281474976710656) (hy:0<=y/\y<=281474976710656) (hN:0<=N/\N<=256)
  (c1:∀W,Below w.heap.size w W->Cb 112 #[.slice p len cap,.int .i64 0] W (.tuple #[x,.int .i64 0]))
  (c2:∀W,Below w.heap.size w W->Cb 99 #[.slice p len cap] W (N))
  (c3:∀W,Below w.heap.size w W->Cb 112 #[.slice p len cap,.int .i64 (N-1)] W (.tuple #[y,.int .i64 0])):
  Cb 183 #[.agg #[K,.slice p len cap,A,R,n,d,.slice q m vc,E]] w (.tuple #[x,.int .i64 (y-x)]):=by
 have e1:=Hd (show wrap64 (N-1)=N-1 by rw[Al];omega)
 have H_c1:=Hd c1
 clear c1
 have H_c2:=Hd c2
 clear c2
 have H_c3:=Hd c3
 clear c3
 go_enter Tryz.func183,Tryz.ntmps183
 go_upto_region 1 with(fail)
 refine Ad w (Bc w.heap.size #[K,.slice p len cap,A,R,n,d,.slice q m vc,E] 179<|Bz) ?_
 rintro W1 hW z2 ⟨⟨b1,yb1,k1,f1⟩,-⟩
 go_wp2_with fail
 refine(H_c1.out _ (Aa)).mono ?_
 rintro e w3 ⟨rfl,hb3⟩
 have z4:=hb3.size
 try simp at z4
 clear k1 f1
 refine Ae w w3 (Bc w.heap.size #[K,.slice p len cap,A,R,n,d,.slice q m vc,E] 179<|Bz) ?_
 clear b1 hW
 rintro hW z5 ⟨⟨b1,yb1,k1,f1⟩,-⟩
 clear hb3
 go_upto_region 2 with(fail)
 clear k1 f1
 refine Ad w (Bc w.heap.size #[K,.slice p len cap,A,R,n,d,.slice q m vc,E] 179<|Bz) ?_
 clear b1 hW
 rintro W6 hW z7 hL
 refine Br 14 31 hW hL ?_
 iterate 6 refine dE (fun W' hC=>e1.out) ?_
 refine cE (fun W' hC=>e1.out) (fun W' hC=>H_c2.out W' (hW.trans (hC.1.of_priv hW.size))) ?_
 refine dE (fun W' hC=>e1.out) ?_
 refine cE (fun W' hC=>e1.out) (fun W' hC=>H_c3.out W' (hW.trans (hC.1.of_priv hW.size))) ?_
 iterate 5 refine dE (fun W' hC=>e1.out) ?_
 clear hW hL
 rintro W8 hW z9 hL
 simp only[ndR]
 intros
 simp only[ndS]
 refine wpList_nil ?_
 obtain⟨⟨b1,yb1,k1,f1⟩,-⟩:=hL
 go_wp2
 refine bodyPost_ret (by simp[results,Tryz.results183,go_sem,k1,f1,yb1]) rfl ⟨rfl,by exact Aa⟩
theorem Yo (K A R n d E:Int) (p q:Option Addr) (len cap m vc:Nat) (w:World) (x L a b:Int)
  (c1:∀W,Below w.heap.size w W->Cb 183 #[.agg #[K,.slice p len cap,A,R,n,d,.slice q 0 vc,E]] W (.tuple #[x,L]))
  (c2:∀W,Below w.heap.size w W->Cb 215 #[.agg #[A,R,n,d],.int .i64 0,L] W (.tuple #[.agg #[a,b],.int .i64 0])):
  Cb 198 #[.agg #[K,.slice p len cap,A,R,n,d,.slice q 0 vc,E]] w (.bool true):=by
 have H_c1:=Hd c1
 clear c1
 have H_c2:=Hd c2
 clear c2
 go_enter Tryz.func198,Tryz.ntmps198
 go_upto_region 1 with(fail)
 refine Ad w (Bc w.heap.size #[K,.slice p len cap,A,R,n,d,.slice q 0 vc,E] 179<|Bz) ?_
 rintro W1 hW z2 ⟨⟨b1,yb1,k1,f1⟩,-⟩
 go_wp2_with fail
 refine(H_c1.out _ (Aa)).mono ?_
 rintro e w3 ⟨rfl,hb3⟩
 have z4:=hb3.size
 try simp at z4
 clear k1 f1
 refine Ae w w3 (Bc w.heap.size #[K,.slice p len cap,A,R,n,d,.slice q 0 vc,E] 179<|Bz) ?_
 clear b1 hW
 rintro hW z5 ⟨⟨b1,yb1,k1,f1⟩,-⟩
 clear hb3
 go_wp2_with fail
 refine(H_c2.out _ (Aa)).mono ?_
 rintro e w6 ⟨rfl,hb6⟩
 have z7:=hb6.size
 try simp at z7
 clear k1 f1
 refine Ae w w6 (Bc w.heap.size #[K,.slice p len cap,A,R,n,d,.slice q 0 vc,E] 179<|Bz) ?_
 clear b1 hW
 rintro hW z8 ⟨⟨b1,yb1,k1,f1⟩,-⟩
 clear hb6
 go_wp2
 refine bodyPost_ret (by simp[results,Tryz.results198,go_sem,k1,f1,yb1]) rfl ⟨rfl,by exact Aa⟩
theorem Yp (K A R n d E:Int) (p q:Option Addr) (len cap m vc:Nat) (w:World) (x L a b:Int) (hm:¬m=0)
  (c1:∀W,Below w.heap.size w W->Cb 183 #[.agg #[K,.slice p len cap,A,R,n,d,.slice q m vc,E]] W (.tuple #[x,L]))
  (c2:∀W,Below w.heap.size w W->Cb 215 #[.agg #[A,R,n,d],.int .i64 0,L] W (.tuple #[.agg #[a,b],.int .i64 0])):
  Cb 198 #[.agg #[K,.slice p len cap,A,R,n,d,.slice q m vc,E]] w (.bool false):=by
 have H_c1:=Hd c1
 clear c1
 have H_c2:=Hd c2
 clear c2
 go_enter Tryz.func198,Tryz.ntmps198
 go_upto_region 1 with(fail)
 refine Ad w (Bc w.heap.size #[K,.slice p len cap,A,R,n,d,.slice q m vc,E] 179<|Bz) ?_
 rintro W1 hW z2 ⟨⟨b1,yb1,k1,f1⟩,-⟩
 go_wp2_with fail
 refine(H_c1.out _ (Aa)).mono ?_
 rintro e w3 ⟨rfl,hb3⟩
 have z4:=hb3.size
 try simp at z4
 clear k1 f1
 refine Ae w w3 (Bc w.heap.size #[K,.slice p len cap,A,R,n,d,.slice q m vc,E] 179<|Bz) ?_
 clear b1 hW
 rintro hW z5 ⟨⟨b1,yb1,k1,f1⟩,-⟩
 clear hb3
 go_wp2_with fail
 refine(H_c2.out _ (Aa)).mono ?_
 rintro e w6 ⟨rfl,hb6⟩
 have z7:=hb6.size
 try simp at z7
 clear k1 f1
 refine Ae w w6 (Bc w.heap.size #[K,.slice p len cap,A,R,n,d,.slice q m vc,E] 179<|Bz) ?_
 clear b1 hW
 rintro hW z8 ⟨⟨b1,yb1,k1,f1⟩,-⟩
 clear hb6
 go_wp2
 refine bodyPost_ret (by simp[results,Tryz.results198,go_sem,k1,f1,yb1,hm]) rfl ⟨rfl,by exact Aa⟩
theorem Vy (K A R n d E:Int) (p q:Option Addr) (len cap m vc:Nat) (w:World) (x L a b:Int)
  (c1:∀W,Below w.heap.size w W->Cb 183 #[.agg #[K,.slice p len cap,A,R,n,d,.slice q m vc,E]] W (.tuple #[x,L]))
  (c2:∀W,Below w.heap.size w W->Cb 215 #[.agg #[A,R,n,d],.int .i64 0,L] W (.tuple #[.agg #[a,b],.int .i64 5])):
  Cb 198 #[.agg #[K,.slice p len cap,A,R,n,d,.slice q m vc,E]] w (.bool false):=by
 have H_c1:=Hd c1
 clear c1
 have H_c2:=Hd c2
 clear c2
 go_enter Tryz.func198,Tryz.ntmps198
 go_upto_region 1 with(fail)
 refine Ad w (Bc w.heap.size #[K,.slice p len cap,A,R,n,d,.slice q m vc,E] 179<|Bz) ?_
 rintro W1 hW z2 ⟨⟨b1,yb1,k1,f1⟩,-⟩
 go_wp2_with fail
 refine(H_c1.out _ (Aa)).mono ?_
 rintro e w3 ⟨rfl,hb3⟩
 have z4:=hb3.size
 try simp at z4
 clear k1 f1
 refine Ae w w3 (Bc w.heap.size #[K,.slice p len cap,A,R,n,d,.slice q m vc,E] 179<|Bz) ?_
 clear b1 hW
 rintro hW z5 ⟨⟨b1,yb1,k1,f1⟩,-⟩
 clear hb3
 go_wp2_with fail
 refine(H_c2.out _ (Aa)).mono ?_
 rintro e w6 ⟨rfl,hb6⟩
 have z7:=hb6.size
 try simp at z7
 clear k1 f1
 refine Ae w w6 (Bc w.heap.size #[K,.slice p len cap,A,R,n,d,.slice q m vc,E] 179<|Bz) ?_
 clear b1 hW
 rintro hW z8 ⟨⟨b1,yb1,k1,f1⟩,-⟩
 clear hb6
 go_wp2
 refine bodyPost_ret (by simp[results,Tryz.results198,go_sem,k1,f1,yb1]) rfl ⟨rfl,by exact Aa⟩
theorem lineis_no (K A R n d E:Int) (p q:Option Addr) (len cap m vc:Nat) (w:World) (x L a b:Int)
  (c1:∀W,Below w.heap.size w W->Cb 183 #[.agg #[K,.slice p len cap,A,R,n,d,.slice q m vc,E]] W (.tuple #[x,L]))
  (c2:∀W,Below w.heap.size w W->Cb 215 #[.agg #[A,R,n,d],.int .i64 0,L] W (.tuple #[.agg #[a,b],.int .i64 150])):
  Cb 198 #[.agg #[K,.slice p len cap,A,R,n,d,.slice q m vc,E]] w (.bool false):=by
 have H_c1:=Hd c1
 clear c1
 have H_c2:=Hd c2
 clear c2
 go_enter Tryz.func198,Tryz.ntmps198
 go_upto_region 1 with(fail)
 refine Ad w (Bc w.heap.size #[K,.slice p len cap,A,R,n,d,.slice q m vc,E] 179<|Bz) ?_
 rintro W1 hW z2 ⟨⟨b1,yb1,k1,f1⟩,-⟩
 go_wp2_with fail
 refine(H_c1.out _ (Aa)).mono ?_
 rintro e w3 ⟨rfl,hb3⟩
 have z4:=hb3.size
 try simp at z4
 clear k1 f1
 refine Ae w w3 (Bc w.heap.size #[K,.slice p len cap,A,R,n,d,.slice q m vc,E] 179<|Bz) ?_
 clear b1 hW
 rintro hW z5 ⟨⟨b1,yb1,k1,f1⟩,-⟩
 clear hb3
 go_wp2_with fail
 refine(H_c2.out _ (Aa)).mono ?_
 rintro e w6 ⟨rfl,hb6⟩
 have z7:=hb6.size
 try simp at z7
 clear k1 f1
 refine Ae w w6 (Bc w.heap.size #[K,.slice p len cap,A,R,n,d,.slice q m vc,E] 179<|Bz) ?_
 clear b1 hW
 rintro hW z8 ⟨⟨b1,yb1,k1,f1⟩,-⟩
 clear hb6
 go_wp2
 refine bodyPost_ret (by simp[results,Tryz.results198,go_sem,k1,f1,yb1]) rfl ⟨rfl,by exact Aa⟩
theorem Yv (K A R n d E:Int) (p q:Option Addr) (len cap m vc:Nat) (w:World) (b:Bool)
  (c1:∀W,Below w.heap.size w W->Cb 198 #[.agg #[K,.slice p len cap,A,R,.int .i64 0,d,.slice q m vc,E]] W (.bool b)):
  Cb 197 #[.agg #[K,.slice p len cap,A,R,.int .i64 0,d,.slice q m vc,E]] w (.bool b):=by
 have H_c1:=Hd c1
 clear c1
 go_enter Tryz.func197,Tryz.ntmps197
 go_upto_region 1 with(fail)
 refine Ad w (Bc w.heap.size #[K,.slice p len cap,A,R,.int .i64 0,d,.slice q m vc,E] 179<|Bz) ?_
 rintro W1 hW z2 ⟨⟨b1,yb1,k1,f1⟩,-⟩
 go_wp2_with fail
 refine(H_c1.out _ (Aa)).mono ?_
 rintro e w3 ⟨rfl,hb3⟩
 have z4:=hb3.size
 try simp at z4
 clear k1 f1
 refine Ae w w3 (Bc w.heap.size #[K,.slice p len cap,A,R,.int .i64 0,d,.slice q m vc,E] 179<|Bz) ?_
 clear b1 hW
 rintro hW z5 ⟨⟨b1,yb1,k1,f1⟩,-⟩
 clear hb3
 go_wp2
 refine bodyPost_ret (by simp[results,Tryz.results197,go_sem,k1,f1,yb1]) rfl ⟨rfl,by exact Aa⟩
theorem kind1_no (K A R n d E:Int) (p q:Option Addr) (len cap m vc:Nat) (w:World) (b:Bool) (hn:(n==0)=false)
   :
  Cb 197 #[.agg #[K,.slice p len cap,A,R,n,d,.slice q m vc,E]] w (.bool false):=by
 go_enter Tryz.func197,Tryz.ntmps197
 go_upto_region 1 with(fail)
 refine Ad w (Bc w.heap.size #[K,.slice p len cap,A,R,n,d,.slice q m vc,E] 179<|Bz) ?_
 rintro W1 hW z2 ⟨⟨b1,yb1,k1,f1⟩,-⟩
 go_wp2
 refine bodyPost_ret (by simp[results,Tryz.results197,go_sem,k1,f1,yb1]) rfl ⟨rfl,by exact Aa⟩
theorem Ys (K A R n d E:Int) (p q:Option Addr) (len cap m vc:Nat) (w:World) (b:Bool) (hn:(n !=0)=true)
  (c1:∀W,Below w.heap.size w W->Cb 198 #[.agg #[K,.slice p len cap,A,.int .i64 0,n,d,.slice q m vc,E]] W (.bool b)):
  Cb 199 #[.agg #[K,.slice p len cap,A,.int .i64 0,n,d,.slice q m vc,E]] w (.bool b):=by
 have H_c1:=Hd c1
 clear c1
 go_enter Tryz.func199,Tryz.ntmps199
 go_upto_region 1 with(fail)
 refine Ad w (Bc w.heap.size #[K,.slice p len cap,A,.int .i64 0,n,d,.slice q m vc,E] 179<|Bz) ?_
 rintro W1 hW z2 ⟨⟨b1,yb1,k1,f1⟩,-⟩
 go_wp2_with fail
 refine(H_c1.out _ (Aa)).mono ?_
 rintro e w3 ⟨rfl,hb3⟩
 have z4:=hb3.size
 try simp at z4
 clear k1 f1
 refine Ae w w3 (Bc w.heap.size #[K,.slice p len cap,A,.int .i64 0,n,d,.slice q m vc,E] 179<|Bz) ?_
 clear b1 hW
 rintro hW z5 ⟨⟨b1,yb1,k1,f1⟩,-⟩
 clear hb3
 go_wp2
 refine bodyPost_ret (by simp[results,Tryz.results199,go_sem,k1,f1,yb1]) rfl ⟨rfl,by exact Aa⟩
theorem Yu (K A R n d E:Int) (p q:Option Addr) (len cap m vc:Nat) (w:World) (b:Bool)
   :
  Cb 199 #[.agg #[K,.slice p len cap,A,R,.int .i64 0,d,.slice q m vc,E]] w (.bool false):=by
 go_enter Tryz.func199,Tryz.ntmps199
 go_upto_region 1 with(fail)
 refine Ad w (Bc w.heap.size #[K,.slice p len cap,A,R,.int .i64 0,d,.slice q m vc,E] 179<|Bz) ?_
 rintro W1 hW z2 ⟨⟨b1,yb1,k1,f1⟩,-⟩
 go_wp2
 refine bodyPost_ret (by simp[results,Tryz.results199,go_sem,k1,f1,yb1]) rfl ⟨rfl,by exact Aa⟩
theorem Yt (K A R n d E:Int) (p q:Option Addr) (len cap m vc:Nat) (w:World) (b:Bool) (hn:(n !=0)=true) (hR:(R==0)=false)
   :
  Cb 199 #[.agg #[K,.slice p len cap,A,R,n,d,.slice q m vc,E]] w (.bool false):=by
 go_enter Tryz.func199,Tryz.ntmps199
 go_upto_region 1 with(fail)
 refine Ad w (Bc w.heap.size #[K,.slice p len cap,A,R,n,d,.slice q m vc,E] 179<|Bz) ?_
 rintro W1 hW z2 ⟨⟨b1,yb1,k1,f1⟩,-⟩
 go_wp2
 refine bodyPost_ret (by simp[results,Tryz.results199,go_sem,k1,f1,yb1]) rfl ⟨rfl,by exact Aa⟩
theorem Yr (K A R n d E:Int) (p q:Option Addr) (len cap m vc:Nat) (w:World) (b:Bool) (hR:(R !=0)=true)
  (c1:∀W,Below w.heap.size w W->Cb 198 #[.agg #[K,.slice p len cap,A,R,n,d,.slice q m vc,E]] W (.bool b)):
  Cb 200 #[.agg #[K,.slice p len cap,A,R,n,d,.slice q m vc,E]] w (.bool b):=by
 have H_c1:=Hd c1
 clear c1
 go_enter Tryz.func200,Tryz.ntmps200
 go_upto_region 1 with(fail)
 refine Ad w (Bc w.heap.size #[K,.slice p len cap,A,R,n,d,.slice q m vc,E] 179<|Bz) ?_
 rintro W1 hW z2 ⟨⟨b1,yb1,k1,f1⟩,-⟩
 go_wp2_with fail
 refine(H_c1.out _ (Aa)).mono ?_
 rintro e w3 ⟨rfl,hb3⟩
 have z4:=hb3.size
 try simp at z4
 clear k1 f1
 refine Ae w w3 (Bc w.heap.size #[K,.slice p len cap,A,R,n,d,.slice q m vc,E] 179<|Bz) ?_
 clear b1 hW
 rintro hW z5 ⟨⟨b1,yb1,k1,f1⟩,-⟩
 clear hb3
 go_wp2
 refine bodyPost_ret (by simp[results,Tryz.results200,go_sem,k1,f1,yb1]) rfl ⟨rfl,by exact Aa⟩
theorem kind3_no (K A R n d E:Int) (p q:Option Addr) (len cap m vc:Nat) (w:World) (b:Bool)
   :
  Cb 200 #[.agg #[K,.slice p len cap,A,.int .i64 0,n,d,.slice q m vc,E]] w (.bool false):=by
 go_enter Tryz.func200,Tryz.ntmps200
 go_upto_region 1 with(fail)
 refine Ad w (Bc w.heap.size #[K,.slice p len cap,A,.int .i64 0,n,d,.slice q m vc,E] 179<|Bz) ?_
 rintro W1 hW z2 ⟨⟨b1,yb1,k1,f1⟩,-⟩
 go_wp2
 refine bodyPost_ret (by simp[results,Tryz.results200,go_sem,k1,f1,yb1]) rfl ⟨rfl,by exact Aa⟩
attribute [local simp] Oper.looksAt Op.operands Call.operands Aj Det Ao
def Kg (A R n d:Int):Bool:=decide (A=0/\R=0/\n=0/\d=0)
theorem rawis_w (K A R n d E:Int) (p q:Option Addr) (len cap m vc:Nat) (w:World) (N:Int) (b2:Bool)
  (c1:∀W,Below w.heap.size w W->Cb 99 #[.slice p len cap] W (N))
  (c2:∀W,Below w.heap.size w W->Cb 218 #[.slice q m vc,.func (.func 219) #[] #[]] W (.bool b2)):
  Cb 202 #[.agg #[K,.slice p len cap,A,R,n,d,.slice q m vc,E]] w (.bool (Kg A R n d&&(m:Int)==N&& !b2)):=by
 have H_c1:=Hd c1
 clear c1
 have H_c2:=Hd c2
 clear c2
 go_enter Tryz.func202,Tryz.ntmps202
 go_upto_region 1 with(fail)
 refine Ad w (Bc w.heap.size #[K,.slice p len cap,A,R,n,d,.slice q m vc,E] 179<|Bz) ?_
 rintro W1 hW z2 hL
 obtain⟨⟨b1,yb1,k1,f1⟩,-⟩:=id hL
 clear k1 f1
 refine Br 24 26 hW hL ?_
 iterate 4 refine dA ?_
 apply Ag (c:= .bool (Kg A R n d)) (hg:=rfl) (hal:=rfl)
 ·intro a W' hC hE
  obtain⟨_,⟨-,-,k1,-⟩,-⟩:=hC
  simp at hE
  simp[go_sem,Act.eval,hE,k1]
  unfold Kg
  by_cases h1:A=0<;>by_cases h2:R=0<;>by_cases h3:n=0<;>by_cases h4:d=0<;>simp[h1,h2,h3,h4]
 refine dA ?_
 iterate 7 refine gA ?_
 refine cG (fun hp hx W' hC=>H_c1.out W' (hW.trans (hC.1.of_priv hW.size))) ?_
 refine gA ?_
 refine pA ?_
 refine dA ?_
 iterate 3 refine gA ?_
 refine cG (fun hp hx W' hC=>H_c2.out W' (hW.trans (hC.1.of_priv hW.size))) ?_
 refine gA ?_
 refine pA ?_
 refine dA ?_
 clear hW hL b1
 rintro W3 hW z4 hL
 simp only[ndR]
 intros
 repeat (rename Ao _ _ _ _=>hgd;clear hgd)
 simp only[ndS]
 refine wpList_nil ?_
 obtain⟨⟨b1,yb1,k1,f1⟩,-⟩:=hL
 go_wp2
 refine bodyPost_ret (v:= .bool (Kg A R n d&&(m:Int)==N&& !b2)) (by simp[results,Tryz.results202,go_sem,k1,f1,yb1]) rfl ⟨rfl,Aa⟩
theorem Hv (w:World):Cb 179 #[] w (.agg #[.nilFunc,.nilFunc,.func (.func 197) #[] #[],.func (.func 201) #[] #[],.func (.func 199) #[] #[],.func (.func 201) #[] #[],.func (.func 200) #[] #[],.func (.func 201) #[] #[],.func (.func 202) #[] #[],.func (.func 203) #[] #[]]):=by
 go_enter Tryz.func179,Tryz.ntmps179
 go_wp2
 exact bodyPost_ret (v:= .agg #[.nilFunc,.nilFunc,.func (.func 197) #[] #[],.func (.func 201) #[] #[],.func (.func 199) #[] #[],.func (.func 201) #[] #[],.func (.func 200) #[] #[],.func (.func 201) #[] #[],.func (.func 202) #[] #[],.func (.func 203) #[] #[]]) (by simp[results,Tryz.results179,go_sem]) rfl ⟨rfl,Aa⟩
theorem is_1 (K A R n d E:Int) (p q:Option Addr) (len cap m vc:Nat) (w:World) (b:Bool)
  (c1:∀W,Below w.heap.size w W->Cb 178 #[.slice p len cap] W (.int .i64 0))
  (c3:∀W,Below w.heap.size w W->Cb 197 #[.agg #[.int .i64 1,.slice p len cap,A,R,n,d,.slice q m vc,E]] W (.bool b)):
  Cb 150 #[.agg #[.int .i64 1,.slice p len cap,A,R,n,d,.slice q m vc,E]] w (.bool (decide (0<=E)&&decide (E<=1099511627776)&&b)):=by
 have H_c1:=Hd c1
 clear c1
 have H_c3:=Hd c3
 clear c3
 go_enter Tryz.func150,Tryz.ntmps150
 go_upto_region 1 with(fail)
 refine Ad w (Bc w.heap.size #[.int .i64 1,.slice p len cap,A,R,n,d,.slice q m vc,E] 179<|Bz) ?_
 rintro W1 hW z2 hL
 obtain⟨⟨b1,yb1,k1,f1⟩,-⟩:=id hL
 clear k1 f1
 refine Br 40 42 hW hL ?_
 iterate 5 refine dA ?_
 iterate 4 refine gA ?_
 refine pA ?_
 refine dA ?_
 iterate 4 refine gA ?_
 refine pA ?_
 refine dA ?_
 iterate 4 refine gA ?_
 refine pA ?_
 refine dA ?_
 iterate 3 refine gA ?_
 refine cG (fun hp hx W' hC=>H_c1.out W' (hW.trans (hC.1.of_priv hW.size))) ?_
 refine gA ?_
 refine pA ?_
 refine dA ?_
 refine cG (fun hp hx W' hC=>Hv W') ?_
 iterate 3 refine gA ?_
 apply Am (p:=true) (c:= .agg #[.func (.func 197) #[] #[],.func (.func 201) #[] #[]]) (hg:=rfl) (hd:=rfl) (hal:=rfl)
 ·intro v W' h
  simp at h
  simp
  exact h
 ·intro hp hx a W' hC hE
  simp[hx] at hE
  simp[go_sem,Act.eval,hE]
  kernel_rfl
 iterate 2 refine gA ?_
 refine cG (fun hp hx W' hC=>H_c3.out W' (hW.trans (hC.1.of_priv hW.size))) ?_
 refine pA ?_
 refine dA ?_
 clear hW hL b1
 rintro W3 hW z4 hL
 simp only[ndR]
 intros
 repeat (rename Ao _ _ _ _=>hgd;clear hgd)
 simp only[ndS]
 refine wpList_nil ?_
 obtain⟨⟨b1,yb1,k1,f1⟩,-⟩:=hL
 go_wp2
 refine bodyPost_ret (v:= .bool (decide (0<=E)&&decide (E<=1099511627776)&&b)) (by simp[results,Tryz.results150,go_sem,k1,f1,yb1]) rfl ⟨rfl,Aa⟩
theorem is_2 (K A R n d E:Int) (p q:Option Addr) (len cap m vc:Nat) (w:World) (b:Bool)
  (c1:∀W,Below w.heap.size w W->Cb 178 #[.slice p len cap] W (.int .i64 0))
  (c3:∀W,Below w.heap.size w W->Cb 199 #[.agg #[.int .i64 2,.slice p len cap,A,R,n,d,.slice q m vc,E]] W (.bool b)):
  Cb 150 #[.agg #[.int .i64 2,.slice p len cap,A,R,n,d,.slice q m vc,E]] w (.bool (decide (0<=E)&&decide (E<=1099511627776)&&b)):=by
 have H_c1:=Hd c1
 clear c1
 have H_c3:=Hd c3
 clear c3
 go_enter Tryz.func150,Tryz.ntmps150
 go_upto_region 1 with(fail)
 refine Ad w (Bc w.heap.size #[.int .i64 2,.slice p len cap,A,R,n,d,.slice q m vc,E] 179<|Bz) ?_
 rintro W1 hW z2 hL
 obtain⟨⟨b1,yb1,k1,f1⟩,-⟩:=id hL
 clear k1 f1
 refine Br 40 42 hW hL ?_
 iterate 5 refine dA ?_
 iterate 4 refine gA ?_
 refine pA ?_
 refine dA ?_
 iterate 4 refine gA ?_
 refine pA ?_
 refine dA ?_
 iterate 4 refine gA ?_
 refine pA ?_
 refine dA ?_
 iterate 3 refine gA ?_
 refine cG (fun hp hx W' hC=>H_c1.out W' (hW.trans (hC.1.of_priv hW.size))) ?_
 refine gA ?_
 refine pA ?_
 refine dA ?_
 refine cG (fun hp hx W' hC=>Hv W') ?_
 iterate 3 refine gA ?_
 apply Am (p:=true) (c:= .agg #[.func (.func 199) #[] #[],.func (.func 201) #[] #[]]) (hg:=rfl) (hd:=rfl) (hal:=rfl)
 ·intro v W' h
  simp at h
  simp
  exact h
 ·intro hp hx a W' hC hE
  simp[hx] at hE
  simp[go_sem,Act.eval,hE]
  kernel_rfl
 iterate 2 refine gA ?_
 refine cG (fun hp hx W' hC=>H_c3.out W' (hW.trans (hC.1.of_priv hW.size))) ?_
 refine pA ?_
 refine dA ?_
 clear hW hL b1
 rintro W3 hW z4 hL
 simp only[ndR]
 intros
 repeat (rename Ao _ _ _ _=>hgd;clear hgd)
 simp only[ndS]
 refine wpList_nil ?_
 obtain⟨⟨b1,yb1,k1,f1⟩,-⟩:=hL
 go_wp2
 refine bodyPost_ret (v:= .bool (decide (0<=E)&&decide (E<=1099511627776)&&b)) (by simp[results,Tryz.results150,go_sem,k1,f1,yb1]) rfl ⟨rfl,Aa⟩
theorem is_3 (K A R n d E:Int) (p q:Option Addr) (len cap m vc:Nat) (w:World) (b:Bool)
  (c1:∀W,Below w.heap.size w W->Cb 178 #[.slice p len cap] W (.int .i64 0))
  (c3:∀W,Below w.heap.size w W->Cb 200 #[.agg #[.int .i64 3,.slice p len cap,A,R,n,d,.slice q m vc,E]] W (.bool b)):
  Cb 150 #[.agg #[.int .i64 3,.slice p len cap,A,R,n,d,.slice q m vc,E]] w (.bool (decide (0<=E)&&decide (E<=1099511627776)&&b)):=by
 have H_c1:=Hd c1
 clear c1
 have H_c3:=Hd c3
 clear c3
 go_enter Tryz.func150,Tryz.ntmps150
 go_upto_region 1 with(fail)
 refine Ad w (Bc w.heap.size #[.int .i64 3,.slice p len cap,A,R,n,d,.slice q m vc,E] 179<|Bz) ?_
 rintro W1 hW z2 hL
 obtain⟨⟨b1,yb1,k1,f1⟩,-⟩:=id hL
 clear k1 f1
 refine Br 40 42 hW hL ?_
 iterate 5 refine dA ?_
 iterate 4 refine gA ?_
 refine pA ?_
 refine dA ?_
 iterate 4 refine gA ?_
 refine pA ?_
 refine dA ?_
 iterate 4 refine gA ?_
 refine pA ?_
 refine dA ?_
 iterate 3 refine gA ?_
 refine cG (fun hp hx W' hC=>H_c1.out W' (hW.trans (hC.1.of_priv hW.size))) ?_
 refine gA ?_
 refine pA ?_
 refine dA ?_
 refine cG (fun hp hx W' hC=>Hv W') ?_
 iterate 3 refine gA ?_
 apply Am (p:=true) (c:= .agg #[.func (.func 200) #[] #[],.func (.func 201) #[] #[]]) (hg:=rfl) (hd:=rfl) (hal:=rfl)
 ·intro v W' h
  simp at h
  simp
  exact h
 ·intro hp hx a W' hC hE
  simp[hx] at hE
  simp[go_sem,Act.eval,hE]
  kernel_rfl
 iterate 2 refine gA ?_
 refine cG (fun hp hx W' hC=>H_c3.out W' (hW.trans (hC.1.of_priv hW.size))) ?_
 refine pA ?_
 refine dA ?_
 clear hW hL b1
 rintro W3 hW z4 hL
 simp only[ndR]
 intros
 repeat (rename Ao _ _ _ _=>hgd;clear hgd)
 simp only[ndS]
 refine wpList_nil ?_
 obtain⟨⟨b1,yb1,k1,f1⟩,-⟩:=hL
 go_wp2
 refine bodyPost_ret (v:= .bool (decide (0<=E)&&decide (E<=1099511627776)&&b)) (by simp[results,Tryz.results150,go_sem,k1,f1,yb1]) rfl ⟨rfl,Aa⟩
theorem is_4 (K A R n d E:Int) (p q:Option Addr) (len cap m vc:Nat) (w:World) (b:Bool)
  (c1:∀W,Below w.heap.size w W->Cb 178 #[.slice p len cap] W (.int .i64 0))
  (c3:∀W,Below w.heap.size w W->Cb 202 #[.agg #[.int .i64 4,.slice p len cap,A,R,n,d,.slice q m vc,E]] W (.bool b)):
  Cb 150 #[.agg #[.int .i64 4,.slice p len cap,A,R,n,d,.slice q m vc,E]] w (.bool (decide (0<=E)&&decide (E<=1099511627776)&&b)):=by
 have H_c1:=Hd c1
 clear c1
 have H_c3:=Hd c3
 clear c3
 go_enter Tryz.func150,Tryz.ntmps150
 go_upto_region 1 with(fail)
 refine Ad w (Bc w.heap.size #[.int .i64 4,.slice p len cap,A,R,n,d,.slice q m vc,E] 179<|Bz) ?_
 rintro W1 hW z2 hL
 obtain⟨⟨b1,yb1,k1,f1⟩,-⟩:=id hL
 clear k1 f1
 refine Br 40 42 hW hL ?_
 iterate 5 refine dA ?_
 iterate 4 refine gA ?_
 refine pA ?_
 refine dA ?_
 iterate 4 refine gA ?_
 refine pA ?_
 refine dA ?_
 iterate 4 refine gA ?_
 refine pA ?_
 refine dA ?_
 iterate 3 refine gA ?_
 refine cG (fun hp hx W' hC=>H_c1.out W' (hW.trans (hC.1.of_priv hW.size))) ?_
 refine gA ?_
 refine pA ?_
 refine dA ?_
 refine cG (fun hp hx W' hC=>Hv W') ?_
 iterate 3 refine gA ?_
 apply Am (p:=true) (c:= .agg #[.func (.func 202) #[] #[],.func (.func 203) #[] #[]]) (hg:=rfl) (hd:=rfl) (hal:=rfl)
 ·intro v W' h
  simp at h
  simp
  exact h
 ·intro hp hx a W' hC hE
  simp[hx] at hE
  simp[go_sem,Act.eval,hE]
  kernel_rfl
 iterate 2 refine gA ?_
 refine cG (fun hp hx W' hC=>H_c3.out W' (hW.trans (hC.1.of_priv hW.size))) ?_
 refine pA ?_
 refine dA ?_
 clear hW hL b1
 rintro W3 hW z4 hL
 simp only[ndR]
 intros
 repeat (rename Ao _ _ _ _=>hgd;clear hgd)
 simp only[ndS]
 refine wpList_nil ?_
 obtain⟨⟨b1,yb1,k1,f1⟩,-⟩:=hL
 go_wp2
 refine bodyPost_ret (v:= .bool (decide (0<=E)&&decide (E<=1099511627776)&&b)) (by simp[results,Tryz.results150,go_sem,k1,f1,yb1]) rfl ⟨rfl,Aa⟩
theorem is_runs (K A R n d E:Int) (p q:Option Addr) (len cap m vc:Nat) (w:World)
  (c1:∀W,Below w.heap.size w W->Cb 178 #[.slice p len cap] W (.int .i64 170)):
  Cb 150 #[.agg #[K,.slice p len cap,A,R,n,d,.slice q m vc,E]] w (.bool false):=by
 have H_c1:=Hd c1
 clear c1
 go_enter Tryz.func150,Tryz.ntmps150
 go_upto_region 1 with(fail)
 refine Ad w (Bc w.heap.size #[K,.slice p len cap,A,R,n,d,.slice q m vc,E] 179<|Bz) ?_
 rintro W1 hW z2 hL
 obtain⟨⟨b1,yb1,k1,f1⟩,-⟩:=id hL
 clear k1 f1
 refine Br 40 42 hW hL ?_
 iterate 5 refine dA ?_
 iterate 4 refine gA ?_
 refine pA ?_
 refine dA ?_
 iterate 4 refine gA ?_
 refine pA ?_
 refine dA ?_
 iterate 4 refine gA ?_
 refine pA ?_
 refine dA ?_
 iterate 3 refine gA ?_
 refine cG (fun hp hx W' hC=>H_c1.out W' (hW.trans (hC.1.of_priv hW.size))) ?_
 refine gA ?_
 refine pA ?_
 refine dA ?_
 iterate 8
  apply Am (p:=true) (c:=undef) (hg:=rfl) (hd:=rfl) (hal:=rfl)
  ·intro v W' h
   simp at h
   simp
   exact h
  ·intro hp hx
   exfalso
   simp at hx
 apply Ag (c:= .bool false) (hg:=rfl) (hal:=rfl)
 ·intro a W' hC hE
  have hE1:=hE 32 (by simp[Oper.looksAt,Op.operands])
  simp at hE1
  simp[go_sem,Act.eval,hE1]
 refine dA ?_
 clear hW hL b1
 rintro W3 hW z4 hL
 simp only[ndR]
 intros
 repeat (rename Ao _ _ _ _=>hgd;clear hgd)
 simp only[ndS]
 refine wpList_nil ?_
 obtain⟨⟨b1,yb1,k1,f1⟩,-⟩:=hL
 go_wp2
 refine bodyPost_ret (v:= .bool false) (by simp[results,Tryz.results150,go_sem,k1,f1,yb1]) rfl ⟨rfl,Aa⟩
theorem is_kind (K A R n d E:Int) (p q:Option Addr) (len cap m vc:Nat) (w:World) (r:Int) (hK:¬(1<=K/\K<=4))
  (c1:∀W,Below w.heap.size w W->Cb 178 #[.slice p len cap] W (r)):
  Cb 150 #[.agg #[K,.slice p len cap,A,R,n,d,.slice q m vc,E]] w (.bool false):=by
 have hK1:(decide (1<=K)&&decide (K<=4))=false:=by simp;omega
 have H_c1:=Hd c1
 clear c1
 go_enter Tryz.func150,Tryz.ntmps150
 go_upto_region 1 with(fail)
 refine Ad w (Bc w.heap.size #[K,.slice p len cap,A,R,n,d,.slice q m vc,E] 179<|Bz) ?_
 rintro W1 hW z2 hL
 obtain⟨⟨b1,yb1,k1,f1⟩,-⟩:=id hL
 clear k1 f1
 refine Br 40 42 hW hL ?_
 iterate 5 refine dA ?_
 iterate 4 refine gA ?_
 refine pA ?_
 refine dA ?_
 iterate 4 refine gA ?_
 refine pA ?_
 refine dA ?_
 iterate 4 refine gA ?_
 refine pA ?_
 refine dA ?_
 iterate 3 refine gA ?_
 refine cG (fun hp hx W' hC=>H_c1.out W' (hW.trans (hC.1.of_priv hW.size))) ?_
 refine gA ?_
 refine pA ?_
 refine dA ?_
 iterate 8
  apply Am (p:=true) (c:=undef) (hg:=rfl) (hd:=rfl) (hal:=rfl)
  ·intro v W' h
   simp at h
   simp
   exact h
  ·intro hp hx
   exfalso
   simp at hx
   omega
 apply Ag (c:= .bool false) (hg:=rfl) (hal:=rfl)
 ·intro a W' hC hE
  have hE1:=hE 32 (by simp[Oper.looksAt,Op.operands])
  simp[Aj,Det,hK1] at hE1
  simp[go_sem,Act.eval,hE1]
 refine dA ?_
 clear hW hL b1
 rintro W3 hW z4 hL
 simp only[ndR]
 intros
 repeat (rename Ao _ _ _ _=>hgd;clear hgd)
 simp only[ndS]
 refine wpList_nil ?_
 obtain⟨⟨b1,yb1,k1,f1⟩,-⟩:=hL
 go_wp2
 refine bodyPost_ret (v:= .bool false) (by simp[results,Tryz.results150,go_sem,k1,f1,yb1]) rfl ⟨rfl,Aa⟩
end Go.Proofs.YtidfcoooccblaaaGreat
namespace Go.Proofs.YtidfcoooccblaaaGreat
open Go.RowKit
structure A4 where
 K:Int
 runs:List Ah
 A:Int
 R:Int
 n:Int
 d:Int
 raw:List Int
 E:Int
def Dh (s:A4) (p q:Option Addr) (cap vc:Nat):Array Value:= #[s.K,.slice p s.runs.length cap,s.A,s.R,s.n,s.d,.slice q s.raw.length vc,s.E]
structure C7 (w:World) (s:A4) (p q:Option Addr):Prop where
 runs:Ai w p s.runs
 raw:Au w q s.raw
 fewR:s.runs.length<=300
 fewV:s.raw.length<=300
theorem C7.below {w w':World} {s:A4} {p q:Option Addr} (h:C7 w s p q) (hb:Below w.heap.size w w'):C7 w' s p q:=⟨h.runs.below hb,h.raw.below hb,h.fewR,h.fewV⟩
def Bm (l:List Ah):Int:=atV l 0
def Cy (l:List Ah):Int:=atV l (cnt l-1)
def Hs (s:A4):Bool:=Cw s.A s.R s.n s.d&&Gd s.A s.R s.n s.d 0 (Cy s.runs-Bm s.runs)&&s.raw.isEmpty
def K8 (s:A4):Bool:=
 if s.K=1 then s.n==0&&Hs s
 else if s.K=2 then s.n !=0&&(s.R==0&&Hs s)
 else if s.K=3 then s.R !=0&&Hs s
 else if s.K=4 then Kg s.A s.R s.n s.d&&(s.raw.length:Int)==cnt s.runs&&s.raw.all A6
 else false
def C1 (s:A4):Bool:=Fe s.runs&&(decide (0<=s.E)&&decide (s.E<=1099511627776)&&K8 s)
theorem D6 {l:List Ah} (h:Ce l):1<=cnt l/\cnt l<=256:=by
 refine⟨?_,h.count⟩
 have:=h.some'
 cases l with
 |nil=>simp at this
 |cons r l=>
  have a:=(h.each r (by simp)).c0
  have b:=Hi l fun r hr=>h.each r (by simp[hr])
  simp only[cnt];omega
theorem Oe {l:List Ah} (h:Ce l) {i:Int} (h0:0<=i) (h1:i<cnt l):∃v,atL l i=some v/\v∈Af l/\atV l i=v/\atE l i=0:=by
 obtain⟨k,rfl⟩:∃k:Nat,i=(k:Int):=⟨i.toNat,by omega⟩
 have hc:∀r,r∈l->0<=r.c:=fun r hr=>by have:=(h.each r hr).c0;omega
 have hl:=Cu l hc
 have hk:k<(Af l).length:=by omega
 have e:=M4 l k hc
 rw[List.getElem?_eq_getElem hk] at e
 exact⟨_,e,List.getElem_mem hk,Jv e,Xc e⟩
theorem Od {l:List Ah} (h:Ce l) {i:Int} (h0:0<=i) (h1:i<cnt l):0<=atV l i/\atV l i<=281474976710656:=by
 obtain⟨v,_,hm,e,_⟩:=Oe h h0 h1
 rw[e];exact Qe l h v hm
theorem c_at (p:Option Addr) (cap:Nat) (l:List Ah) (i:Int) (w:World) (hl:Ce l) (h:Ai w p l) (h0:0<=i) (h1:i<cnt l):
  Cb 112 #[.slice p l.length cap,i] w (.tuple #[.int .i64 (atV l i),.int .i64 0]):=by
 obtain⟨v,e,_,_,e0⟩:=Oe hl h0 h1
 have:=at_w p cap l i w hl h h0 (by have:=hl.count;omega)
 rw[e0] at this
 exact this
theorem H8 {l:List Ah} (h:Ce l) {i j:Int} (h0:0<=i) (h1:i<=j) (h2:j<cnt l):atV l i<=atV l j:=by
 rcases Int.lt_or_eq_of_le h1 with hlt|rfl
 ·obtain⟨a,rfl⟩:∃k:Nat,i=(k:Int):=⟨i.toNat,by omega⟩
  obtain⟨b,rfl⟩:∃k:Nat,j=(k:Int):=⟨j.toNat,by omega⟩
  have hc:∀r,r∈l->0<=r.c:=fun r hr=>by have:=(h.each r hr).c0;omega
  have hl:=Cu l hc
  have hp:=Hc l h.each h.chain
  have ha:a<(Af l).length:=by omega
  have hb:b<(Af l).length:=by omega
  have e1:=M4 l a hc
  have e2:=M4 l b hc
  rw[List.getElem?_eq_getElem ha] at e1
  rw[List.getElem?_eq_getElem hb] at e2
  rw[Jv e1,Jv e2]
  exact Int.le_of_lt (List.pairwise_iff_getElem.1 hp a b ha hb (by omega))
 ·exact Int.le_refl _
theorem Lg (p:Option Addr) (cap:Nat) (l:List Ah) (w:World) (hl:Ce l) (h:Ai w p l):
  Cb 99 #[.slice p l.length cap] w (.int .i64 (cnt l)):=by
 have:=c_rcount p cap l w (by have:=hl.few;omega) h
 rw[if_pos ((D1 l).2 hl)] at this
 exact this
theorem c_span (s:A4) (p q:Option Addr) (cap vc:Nat) (w:World) (hl:Ce s.runs) (h:C7 w s p q):
  Cb 183 #[.agg (Dh s p q cap vc)] w (.tuple #[.int .i64 (Bm s.runs),.int .i64 (Cy s.runs-Bm s.runs)]):=by
 obtain⟨n0,n1⟩:=D6 hl
 exact span_w _ _ _ _ _ _ p q _ cap _ vc w (Bm s.runs) (Cy s.runs) (cnt s.runs) (Od hl (by omega) (by omega)) (Od hl (by omega) (by omega)) ⟨by omega,n1⟩
  (fun W hW=>c_at p cap s.runs 0 W hl (h.runs.below hW) (by omega) (by omega))
  (fun W hW=>Lg p cap s.runs W hl (h.runs.below hW))
  (fun W hW=>c_at p cap s.runs (cnt s.runs-1) W hl (h.runs.below hW) (by omega) (by omega))
theorem c_lineIs (s:A4) (p q:Option Addr) (cap vc:Nat) (w:World) (hl:Ce s.runs) (h:C7 w s p q):
  Cb 198 #[.agg (Dh s p q cap vc)] w (.bool (Hs s)):=by
 obtain⟨n0,n1⟩:=D6 hl
 have hs:=fun W (hW:Below w.heap.size w W)=>c_span s p q cap vc W hl (h.below hW)
 have hf:=Od hl (show (0:Int)<=0 by omega) (by omega)
 have hla:=Od hl (show 0<=cnt s.runs-1 by omega) (by omega)
 have hm:=H8 hl (show (0:Int)<=0 by omega) (show 0<=cnt s.runs-1 by omega) (by omega)
 unfold Hs
 cases hL:Cw s.A s.R s.n s.d with
 |false=>
  exact lineis_no _ _ _ _ _ _ p q _ cap _ vc w _ _ 0 0 hs (fun W _=>c_Ends_no s.A s.R s.n s.d 0 _ W hL)
 |true=>
  have hE:=fun W (_:Below w.heap.size w W)=>c_Ends s.A s.R s.n s.d 0 (Cy s.runs-Bm s.runs) W (Jo.1 hL) (by omega) (by unfold Cy Bm;omega) (by unfold Cy Bm;omega)
  cases hO:Gd s.A s.R s.n s.d 0 (Cy s.runs-Bm s.runs) with
  |false=>
   rw[hO] at hE
   exact Vy _ _ _ _ _ _ p q _ cap _ vc w _ _ _ _ hs hE
  |true=>
   rw[hO] at hE
   cases hr:s.raw with
   |nil=>
    have hz:s.raw.length=0:=by rw[hr];rfl
    unfold Dh at hs⊢
    rw[hz] at hs⊢
    exact Yo _ _ _ _ _ _ p q _ cap 0 vc w _ _ _ _ hs hE
   |cons x l=>exact Yp _ _ _ _ _ _ p q _ cap _ vc w _ _ _ _ (by rw[hr];simp) hs hE
theorem P7 (s:A4) (p q:Option Addr) (cap vc:Nat) (w:World) (h:C7 w s p q):
  Cb 150 #[.agg (Dh s p q cap vc)] w (.bool (C1 s)):=by
 have c1:=fun W (hW:Below w.heap.size w W)=>c_rcheck p cap s.runs W (by have:=h.fewR;omega) (h.runs.below hW)
 unfold C1
 by_cases hK:1<=s.K/\s.K<=4
 ·cases hr:Fe s.runs with
  |false=>
   rw[hr] at c1
   exact is_runs _ _ _ _ _ _ p q _ cap _ vc w c1
  |true=>
   rw[hr] at c1
   have hl:=(D1 s.runs).1 hr
   have hli:=fun W (hW:Below w.heap.size w W)=>c_lineIs s p q cap vc W hl (h.below hW)
   rw[Bool.true_and]
   have hk:s.K=1∨s.K=2∨s.K=3∨s.K=4:=by omega
   unfold K8
   rcases hk with e|e|e|e
   ·rw[if_pos e]
    unfold Dh at hli⊢
    rw[e] at hli⊢
    refine is_1 0 _ _ _ _ _ p q _ cap _ vc w _ c1 ?_
    intro W hW
    by_cases hn:s.n=0
    ·have hli':=fun W' (hW':Below W.heap.size W W')=>hli W' (hW.trans (hW'.mono hW.size))
     rw[hn] at hli'⊢
     simpa using Yv _ _ _ 0 _ _ p q _ cap _ vc W _ hli'
    ·have:(s.n==0)=false:=by simpa using hn
     rw[this]
     exact kind1_no _ _ _ _ _ _ p q _ cap _ vc W true this
   ·rw[if_neg (by omega),if_pos e]
    unfold Dh at hli⊢
    rw[e] at hli⊢
    refine is_2 0 _ _ _ _ _ p q _ cap _ vc w _ c1 ?_
    intro W hW
    have hli':=fun W' (hW':Below W.heap.size W W')=>hli W' (hW.trans (hW'.mono hW.size))
    by_cases hn:s.n=0
    ·rw[hn]
     exact Yu _ _ _ 0 _ _ p q _ cap _ vc W true
    ·have hn':(s.n !=0)=true:=by simpa using hn
     rw[hn',Bool.true_and]
     by_cases hR:s.R=0
     ·rw[hR] at hli'⊢
      simpa using Ys _ _ 0 _ _ _ p q _ cap _ vc W _ hn' hli'
     ·have hR':(s.R==0)=false:=by simpa using hR
      rw[hR']
      exact Yt _ _ _ _ _ _ p q _ cap _ vc W true hn' hR'
   ·rw[if_neg (by omega),if_neg (by omega),if_pos e]
    unfold Dh at hli⊢
    rw[e] at hli⊢
    refine is_3 0 _ _ _ _ _ p q _ cap _ vc w _ c1 ?_
    intro W hW
    have hli':=fun W' (hW':Below W.heap.size W W')=>hli W' (hW.trans (hW'.mono hW.size))
    by_cases hR:s.R=0
    ·rw[hR]
     exact kind3_no _ _ 0 _ _ _ p q _ cap _ vc W true
    ·have hR':(s.R !=0)=true:=by simpa using hR
     rw[hR',Bool.true_and]
     exact Yr _ _ _ _ _ _ p q _ cap _ vc W _ hR' hli'
   ·rw[if_neg (by omega),if_neg (by omega),if_neg (by omega),if_pos e]
    unfold Dh
    rw[e]
    refine is_4 0 _ _ _ _ _ p q _ cap _ vc w _ c1 ?_
    intro W hW
    have:=rawis_w 4 s.A s.R s.n s.d s.E p q s.runs.length cap s.raw.length vc W (cnt s.runs) (!(s.raw.all A6))
     (fun W' hW'=>Lg p cap s.runs W' hl (h.runs.below (hW.trans (hW'.mono hW.size))))
     (fun W' hW'=>Zk q vc s.raw W' (by have:=h.fewV;omega) (h.raw.below (hW.trans (hW'.mono hW.size))))
    rw[Bool.not_not] at this
    exact this
 ·have hk:K8 s=false:=by
   unfold K8
   rw[if_neg (by omega),if_neg (by omega),if_neg (by omega),if_neg (by omega)]
  rw[hk]
  simp only[Bool.and_false]
  exact is_kind _ _ _ _ _ _ p q _ cap _ vc w _ hK c1
theorem Ai.alloc {w:World} {p:Option Addr} {l:List Ah} (h:Ai w p l) (o:Obj):Ai (w.alloc o) p l:=h.below ((Below.refl _ _).alloc (Nat.le_refl _) o)
theorem Ai.calls {w w':World} {p:Option Addr} {l:List Ah} (h:Ai w p l) (hb:Below w.heap.size w w'):Ai w' p l:=h.below hb
theorem Ai.set {w:World} {g x o i:Nat} {v:Value} {l:List Ah} (h:Ai w (some ⟨g,x,none⟩) l) (hne:g≠o):Ai (w.setCell ⟨o,i,none⟩ v) (some ⟨g,x,none⟩) l:=⟨fun k r hr=>by
 obtain⟨b,y,e,h1,h2,h3⟩:=h.at' k r hr
 cases e
 have hc:∀z,(w.setCell ⟨o,i,none⟩ v).cell? ⟨g,z,none⟩=w.cell? ⟨g,z,none⟩:=by
  intro z
  have:=heap_setCell_other w ⟨o,i,none⟩ g v hne
  simp only[World.cell?,this]
 exact⟨g,x,rfl,(hc _).trans h1,(hc _).trans h2,(hc _).trans h3⟩⟩
theorem Te {w:World} {p:Option Addr} {l:List Ah} (h:Ai w p l:=by repeat (first|with_reducible assumption|with_reducible (refine Ai.alloc ?_ _)|with_reducible (refine Ai.set ?_ (by first|omega|(simp;done)|(simp;omega)))|with_reducible (refine Ai.calls ?_ (by assumption)))):Ai w p l:=h
def lpRel (K A R n d E:Int) (p q:Option Addr) (len cap m vc:Nat) (w:World) (i j x lo hi:Int) (P:List Ah) (SS:Nat->Int) (g o:Nat) (a':Act) (W:World):Prop:=
 Below w.heap.size w W/\Blk W w.heap.size #[.int .i64 K,.slice p len cap,.int .i64 A,.int .i64 R,.int .i64 n,.int .i64 d,.slice q m vc,.int .i64 E] 179/\Blk W (w.heap.size+1) #[.int .i64 0,.int .i64 0,.int .i64 0,.int .i64 0,.int .u64 0] 196/\Ai W (some ⟨g,0,none⟩) P/\∃k:Nat,(∃u:Nat->Value,a'= {tmps:= #[u 0,u 1,u 2,.pointer (some ⟨w.heap.size,0,none⟩),u 4,u 5,.pointer (some ⟨w.heap.size+1,0,none⟩),.int .i64 x,u 8,u 9,u 10,u 11,u 12,u 13,u 14,.pointer (some ⟨o,0,none⟩),u 16,u 17,u 18,u 19,u 20,u 21,u 22,u 23,u 24,u 25,u 26,u 27,u 28,u 29,u 30,u 31,u 32,u 33,u 34,u 35,u 36,u 37,u 38,u 39,u 40,u 41,u 42,u 43,u 44,u 45,u 46,u 47,u 48,u 49,u 50,u 51,u 52,u 53,u 54,u 55,u 56,u 57,u 58,u 59,u 60,u 61,u 62,u 63,u 64,u 65,u 66,u 67,u 68,u 69,u 70,u 71,u 72,u 73,.slice (some ⟨g,0,none⟩) P.length P.length,.int .i64 (P.length:Int),.int .i64 (k:Int),u 77,u 78,u 79,u 80,u 81,u 82,u 83,u 84,u 85,u 86,u 87,u 88,u 89,u 90,u 91,u 92,u 93,u 94,u 95,u 96,u 97,u 98,u 99,u 100,u 101,u 102,u 103,u 104],defers:= []})/\k<=P.length/\Blk W o #[.int .i64 (j-i),.int .i64 lo,.int .i64 hi,.int .i64 (hiW (SS k)),.int .u64 (loW (SS k))] 196
theorem Yn (K A R n d E:Int) (p q:Option Addr) (len cap m vc:Nat) (w:World) (i j x L a b lo hi S:Int) (P:List Ah) (SS:Nat->Int) (T:Ah->Int) (hi0:0<=i/\i<j/\j<=256) (hx:0<=x/\x<=281474976710656) (ha:0<=a/\a<=281474976710656) (hb:0<=b/\b<=281474976710656)
  (hP0:P.length<=256) (hPf:∀r,r∈P->0<=r.f/\r.f<=281474976710656) (h0:SS 0=0) (hS:SS P.length=S)
  (c1:∀W,Below w.heap.size w W->Cb 183 #[.agg #[.int .i64 K,.slice p len cap,.int .i64 A,.int .i64 R,.int .i64 n,.int .i64 d,.slice q m vc,.int .i64 E]] W (.tuple #[.int .i64 x,.int .i64 L]))
  (c2:∀W,Below w.heap.size w W->Cb 112 #[.slice p len cap,.int .i64 i] W (.tuple #[.int .i64 a,.int .i64 0]))
  (c3:∀W,Below w.heap.size w W->Cb 112 #[.slice p len cap,.int .i64 (j-1)] W (.tuple #[.int .i64 b,.int .i64 0]))
  (c4:∀W,Below w.heap.size w W->Cb 215 #[.agg #[.int .i64 A,.int .i64 R,.int .i64 n,.int .i64 d],.int .i64 (a-x),.int .i64 (b-x)] W (.tuple #[.agg #[.int .i64 lo,.int .i64 hi],.int .i64 0]))
  (c5:∀W,Below w.heap.size w W->Calls Tryz.prog 216 #[.slice p len cap,.int .i64 i,.int .i64 j] W fun e w'=>∃g,W.heap.size<=g/\e= .returned (.tuple #[.slice (some ⟨g,0,none⟩) P.length P.length,.int .i64 0])/\Below W.heap.size W w'/\Ai w' (some ⟨g,0,none⟩) P)
  (c6:∀r,r∈P->∀W,Below w.heap.size w W->Cb 217 #[.agg #[.int .i64 A,.int .i64 R,.int .i64 n,.int .i64 d],.int .i64 (r.f-x),.int .i64 r.s,.int .i64 r.c] W (.tuple #[.agg #[.int .i64 (hiW (T r)),.int .u64 (loW (T r))],.int .i64 0]))
  (c7:∀(k:Nat) (r:Ah),P[k]? =some r->∀W,Below w.heap.size w W->Cb 16 #[.agg #[.int .i64 (hiW (SS k)),.int .u64 (loW (SS k))],.agg #[.int .i64 (hiW (T r)),.int .u64 (loW (T r))]] W (.tuple #[.agg #[.int .i64 (hiW (SS (k+1))),.int .u64 (loW (SS (k+1)))],.int .i64 0])):
  Cb 201 #[.agg #[.int .i64 K,.slice p len cap,.int .i64 A,.int .i64 R,.int .i64 n,.int .i64 d,.slice q m vc,.int .i64 E],.int .i64 i,.int .i64 j] w (.agg #[.int .i64 (j-i),.int .i64 lo,.int .i64 hi,.int .i64 (hiW (S)),.int .u64 (loW (S))]):=by
 have hW0:hiW (SS 0)=0:=by rw[h0];rfl
 have hW1:loW (SS 0)=0:=by rw[h0];rfl
 replace hW0:=Hd hW0
 replace hW1:=Hd hW1
 replace h0:=Hd h0
 replace hS:=Hd hS
 replace hPf:=Hd hPf
 replace c6:=Hd c6
 replace c7:=Hd c7
 have H_c1:=Hd c1
 clear c1
 have H_c2:=Hd c2
 clear c2
 have H_c3:=Hd c3
 clear c3
 have H_c4:=Hd c4
 clear c4
 have H_c5:=Hd c5
 clear c5
 go_enter Tryz.func201,Tryz.ntmps201
 go_upto_region 1 with(fail)
 refine Ad w (Bc w.heap.size #[.int .i64 K,.slice p len cap,.int .i64 A,.int .i64 R,.int .i64 n,.int .i64 d,.slice q m vc,.int .i64 E] 179<|Bc (w.heap.size+1) #[.int .i64 0,.int .i64 0,.int .i64 0,.int .i64 0,.int .u64 0] 196<|Bz) ?_
 rintro W1 hW z2 ⟨⟨b1,yb1,k1,f1⟩,⟨b2,yb2,k2,f2⟩,-⟩
 go_wp2_with fail
 refine(H_c1.out _ (Aa)).mono ?_
 rintro e w3 ⟨rfl,hb3⟩
 have z4:=hb3.size
 try simp at z4
 clear k1 f1 k2 f2
 refine Ae w w3 (Bc w.heap.size #[.int .i64 K,.slice p len cap,.int .i64 A,.int .i64 R,.int .i64 n,.int .i64 d,.slice q m vc,.int .i64 E] 179<|Bc (w.heap.size+1) #[.int .i64 0,.int .i64 0,.int .i64 0,.int .i64 0,.int .u64 0] 196<|Bz) ?_
 clear b1 b2 hW
 rintro hW z5 ⟨⟨b1,yb1,k1,f1⟩,⟨b2,yb2,k2,f2⟩,-⟩
 clear hb3
 go_wp2_with fail
 refine(H_c2.out _ (Aa)).mono ?_
 rintro e w6 ⟨rfl,hb6⟩
 have z7:=hb6.size
 try simp at z7
 clear k1 f1 k2 f2
 refine Ae w w6 (Bc w.heap.size #[.int .i64 K,.slice p len cap,.int .i64 A,.int .i64 R,.int .i64 n,.int .i64 d,.slice q m vc,.int .i64 E] 179<|Bc (w.heap.size+1) #[.int .i64 0,.int .i64 0,.int .i64 0,.int .i64 0,.int .u64 0] 196<|Bz) ?_
 clear b1 b2 hW
 rintro hW z8 ⟨⟨b1,yb1,k1,f1⟩,⟨b2,yb2,k2,f2⟩,-⟩
 clear hb6
 go_wp2_with fail
 refine(H_c3.out _ (Aa)).mono ?_
 rintro e w9 ⟨rfl,hb9⟩
 have z10:=hb9.size
 try simp at z10
 clear k1 f1 k2 f2
 refine Ae w w9 (Bc w.heap.size #[.int .i64 K,.slice p len cap,.int .i64 A,.int .i64 R,.int .i64 n,.int .i64 d,.slice q m vc,.int .i64 E] 179<|Bc (w.heap.size+1) #[.int .i64 0,.int .i64 0,.int .i64 0,.int .i64 0,.int .u64 0] 196<|Bz) ?_
 clear b1 b2 hW
 rintro hW z11 ⟨⟨b1,yb1,k1,f1⟩,⟨b2,yb2,k2,f2⟩,-⟩
 clear hb9
 go_wp2_with fail
 refine(H_c4.out _ (Aa)).mono ?_
 rintro e w12 ⟨rfl,hb12⟩
 have z13:=hb12.size
 try simp at z13
 clear k1 f1 k2 f2
 refine Ae w w12 (Bc w.heap.size #[.int .i64 K,.slice p len cap,.int .i64 A,.int .i64 R,.int .i64 n,.int .i64 d,.slice q m vc,.int .i64 E] 179<|Bc (w.heap.size+1) #[.int .i64 0,.int .i64 0,.int .i64 0,.int .i64 0,.int .u64 0] 196<|Bz) ?_
 clear b1 b2 hW
 rintro hW z14 ⟨⟨b1,yb1,k1,f1⟩,⟨b2,yb2,k2,f2⟩,-⟩
 clear hb12
 go_wp2_with fail
 refine(H_c5.out _ (Aa)).mono ?_
 rintro e w15 ⟨g,hg,rfl,hb15,hP⟩
 have z16:=hb15.size
 try simp at z16
 clear k1 f1 k2 f2
 refine Ae w w15 (Bc w.heap.size #[.int .i64 K,.slice p len cap,.int .i64 A,.int .i64 R,.int .i64 n,.int .i64 d,.slice q m vc,.int .i64 E] 179<|Bc (w.heap.size+1) #[.int .i64 0,.int .i64 0,.int .i64 0,.int .i64 0,.int .u64 0] 196<|Bc w12.heap.size #[.int .i64 lo,.int .i64 hi] 33<|Bc (w12.heap.size+1) #[.int .i64 (j-i),.int .i64 lo,.int .i64 hi,.int .i64 0,.int .u64 0] 196<|Bz) ?_
 clear b1 b2 hW
 rintro hW z17 ⟨⟨b1,yb1,k1,f1⟩,⟨b2,yb2,k2,f2⟩,⟨b3,yb3,k3,f3⟩,⟨b4,yb4,k4,f4⟩,-⟩
 clear H_c1 H_c2 H_c3 H_c4 H_c5 b3 k3 f3
 try simp at hg
 obtain⟨o,ho⟩:∃o,o=w12.heap.size+1:=⟨_,rfl⟩
 rw[<-ho] at b4 k4 f4
 have ho1:w.heap.size+2<=o:=by omega
 have ho2:o<g:=by omega
 replace ho:=Hd ho
 have ho3:=Hd (show w12.heap.size+1=o from ho.out.symm)
 go_wp2
 rw[ho3.out]
 refine wp_loop (lpRel K A R n d E p q len cap m vc w i j x lo hi P SS g o) (fun a' _=>P.length-(Ak (a'.tmps.getD 76 undef)).toNat) ?_ ?_
 ·unfold lpRel
  exact⟨hW,b1,b2,hP,0,Ac rfl,by omega,by rw[hW0.out,hW1.out];exact b4⟩
 ·clear hW b1 b2 b4 hP k1 f1 k2 f2 k4 f4
  rintro a' W ⟨hW,b1,b2,b4,k,⟨u,rfl⟩,hk,b3⟩
  have hz:=hW.size
  have hz1:=b1.lt
  have hz2:=b2.lt
  have hz3:=b3.lt
  rcases Nat.lt_or_ge k P.length with hlt|hge
  ·obtain⟨r,hri⟩:∃r,P[k]? =some r:=⟨P[k],List.getElem?_eq_getElem hlt⟩
   have hm:r∈P:=List.mem_of_getElem? hri
   obtain⟨rf0,rf1⟩:=hPf.out r hm
   obtain⟨g',o',e',q0,q1,q2⟩:=b4.at' k r hri
   cases e'
   simp only[Nat.zero_add] at q0 q1 q2
   replace hri:=Hd hri
   have H_c61:=Hd (c6 r hm)
   have H_c71:=Hd (c7 k r hri.out)
   have k1:=b1.cell
   have f1:=b1.frozen
   have k2:=b2.cell
   have f2:=b2.frozen
   have k3:=b3.cell
   have f3:=b3.frozen
   go_wp2_with fail
   refine(H_c61.out _ (Aa)).mono ?_
   rintro e w1 ⟨rfl,hb1⟩
   have z2:=hb1.size
   try simp at z2
   clear k1 f1 k2 f2 k3 f3
   refine Ae w w1 (Bc w.heap.size #[.int .i64 K,.slice p len cap,.int .i64 A,.int .i64 R,.int .i64 n,.int .i64 d,.slice q m vc,.int .i64 E] 179<|Bc (w.heap.size+1) #[.int .i64 0,.int .i64 0,.int .i64 0,.int .i64 0,.int .u64 0] 196<|Bc o #[.int .i64 (j-i),.int .i64 lo,.int .i64 hi,.int .i64 (hiW (SS k)),.int .u64 (loW (SS k))] 196<|Rc (fun W'=>Ai W' (some ⟨g,0,none⟩) P)<|Bc W.heap.size #[.int .i64 r.f,.int .i64 r.s,.int .i64 r.c] 144<|Bz) ?_ (hR:=(Bc.mk (by exact Ab)<|Bc.mk (by exact Ab)<|Bc.mk (by exact Ab)<|Rc.mk (by exact Te)<|Bc.mk (by exact Ab)<|trivial))
   clear b1 b2 b3 b4 hW
   rintro hW z3 ⟨⟨b1,yb1,k1,f1⟩,⟨b2,yb2,k2,f2⟩,⟨b3,yb3,k3,f3⟩,b4,⟨b5,yb5,k5,f5⟩,-⟩
   clear hb1
   go_wp2_with fail
   refine(H_c71.out _ (Aa)).mono ?_
   rintro e w4 ⟨rfl,hb4⟩
   have z5:=hb4.size
   try simp at z5
   clear k1 f1 k2 f2 k3 f3 k5 f5
   refine Ae w w4 (Bc w.heap.size #[.int .i64 K,.slice p len cap,.int .i64 A,.int .i64 R,.int .i64 n,.int .i64 d,.slice q m vc,.int .i64 E] 179<|Bc (w.heap.size+1) #[.int .i64 0,.int .i64 0,.int .i64 0,.int .i64 0,.int .u64 0] 196<|Bc o #[.int .i64 (j-i),.int .i64 lo,.int .i64 hi,.int .i64 (hiW (SS k)),.int .u64 (loW (SS k))] 196<|Rc (fun W'=>Ai W' (some ⟨g,0,none⟩) P)<|Bc W.heap.size #[.int .i64 r.f,.int .i64 r.s,.int .i64 r.c] 144<|Bc w1.heap.size #[.int .i64 (hiW (T r)),.int .u64 (loW (T r))] 36<|Bz) ?_ (hR:=(Bc.mk (by exact Ab)<|Bc.mk (by exact Ab)<|Bc.mk (by exact Ab)<|Rc.mk (by exact Te)<|Bc.mk (by exact Ab)<|Bc.mk (by exact Ab)<|trivial))
   clear b1 b2 b3 b4 b5 hW
   rintro hW z6 ⟨⟨b1,yb1,k1,f1⟩,⟨b2,yb2,k2,f2⟩,⟨b3,yb3,k3,f3⟩,b4,⟨b5,yb5,k5,f5⟩,⟨b6,yb6,k6,f6⟩,-⟩
   clear hb4
   go_wp2
   rw[show (k:Int)+1=((k+1:Nat):Int) by omega]
   refine⟨?_,by simp[Ak];omega⟩
   unfold lpRel
   exact⟨Aa,A3,A3,Te,k+1,Ac rfl,by omega,A3⟩
  ·have e:k=P.length:=by omega
   subst e
   have k1:=b1.cell
   have f1:=b1.frozen
   have k2:=b2.cell
   have f2:=b2.frozen
   have k3:=b3.cell
   have f3:=b3.frozen
   go_wp2
   refine bodyPost_ret (v:= .agg #[.int .i64 (j-i),.int .i64 lo,.int .i64 hi,.int .i64 (hiW (SS P.length)),.int .u64 (loW (SS P.length))]) (by simp[results,Tryz.results201,go_sem,k1,f1,k2,f2,k3,f3,yb1,yb2,yb3]) rfl ⟨by rw[hS.out],Aa⟩
end Go.Proofs.YtidfcoooccblaaaGreat
