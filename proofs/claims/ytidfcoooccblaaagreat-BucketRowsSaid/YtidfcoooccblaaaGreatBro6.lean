/- Parts of the proof that follows. No condition. -/
import Derived.Laws.EntriesVeiled
import Derived.Laws.AppendOwn
import Derived.RangeFuncNested
import Derived.RangeFuncBound
import Derived.RangeFuncCalls
import Derived.RangeFuncLeaves
import Derived.RangeFuncBox
import Derived.Maps.AppendAt
import Derived.Shelf.Abstract
import Derived.Shelf.RegionOpen
import Derived.WalkKit
import Derived.OwnWalkIn
import Derived.TacticsInMore
import Derived.LoopNIn
import Derived.LoopIn
import Derived.Test.YtidfcoooccblaaaGreatBro5
set_option maxRecDepth 100000
set_option maxHeartbeats 8000000
set_option linter.unusedSimpArgs false
set_option linter.unusedVariables false
namespace Go.Proofs.YtidfcoooccblaaaGreat
open Go.RowKit
theorem Tryz.infoInt :(Tryz.prog.info? 2).map (fun i=>(i.zero,i.size,i.bytes))=some (some (.int .i64 0),1,8):=by kernel_rfl
theorem make_ints (c:Int) (n:Nat) (hc:c=(n:Int)) (hn:n<=1000000):∃C:Array Value,C.size=n/\∀W,(Instr.makeSlice 96 (c) (c)).run Tryz.prog W= .ok (.slice (some ⟨W.heap.size,0,none⟩) n n) (W.alloc (.cells C 2)):=by
 obtain⟨i,hi,hz0,hz1,hz2⟩:=info_parts Tryz.infoInt
 refine⟨madeCells #[.int .i64 0] n,?_,fun W=> ?_⟩
 rotate_left
 ·have:=run_make (P:=Tryz.prog) W 96 2 i _ rfl hi hz0 .i64 .i64 c c (by omega) (by omega) (by rw[hz2];omega) (by omega)
  rw[hc] at this⊢
  simpa [hz1,Value.cells] using this
 ·simp[size_madeCells]
theorem IntsIn.of_blk {w:World} {g:Nat} {V:List Int} {t:TypeId} (h:Blk w g (V.map (Value.int .i64)).toArray t):IntsIn w (some ⟨g,0,none⟩) V:=⟨fun i x hx=>by
 refine⟨g,0,rfl,?_⟩
 rw[h.cell]
 simp[hx]⟩
theorem IntsIn.part {w:World} {vb vo i n:Nat} {raw:List Int} (h:IntsIn w (some ⟨vb,vo,none⟩) raw) (k:Nat) (v:Value) (hv:(((raw.drop i).take n).map (Value.int .i64))[k]? =some v):w.cell? ((⟨vb,vo+i,none⟩:Addr).add k)=some v:=by
 have hadd:(⟨vb,vo+i,none⟩:Addr).add k=⟨vb,vo+i+k,none⟩:=by unfold Addr.add;split<;>simp_all
 rw[hadd]
 simp only[List.getElem?_map,Option.map_eq_some_iff] at hv
 obtain⟨x,hx,rfl⟩:=hv
 have hx':raw[i+k]? =some x:=by
  rw[List.getElem?_take] at hx
  split at hx
  ·rwa [List.getElem?_drop] at hx
  ·cases hx
 obtain⟨b,y,e,hc⟩:=h.at' _ x hx'
 cases e
 rw[Nat.add_assoc];exact hc
def rpRel (w:World) (i j:Nat) (lo hi:Int) (V:List Int) (SS:Nat->Int) (o:Nat) (a':Act) (W:World):Prop:=
 Below w.heap.size w W/\Blk W (w.heap.size+1) #[.int .i64 0,.int .i64 0,.int .i64 0,.int .i64 0,.int .u64 0] 196/\Blk W (w.heap.size+1+1) (V.map (Value.int .i64)).toArray 2/\∃k:Nat,(∃u:Nat->Value,a'= {tmps:= #[u 0,u 1,u 2,u 3,u 4,u 5,.pointer (some ⟨w.heap.size+1,0,none⟩),u 7,.pointer (some ⟨o,0,none⟩),u 9,u 10,u 11,u 12,u 13,u 14,u 15,u 16,u 17,u 18,u 19,u 20,u 21,u 22,u 23,u 24,u 25,u 26,u 27,u 28,u 29,u 30,.slice (some ⟨w.heap.size+1+1,0,none⟩) V.length V.length,.int .i64 (V.length:Int),.int .i64 (k:Int),u 34,u 35,u 36,u 37,u 38,u 39,u 40,u 41,u 42,u 43,u 44,u 45,u 46,u 47],defers:= []})/\k<=V.length/\Blk W o #[.int .i64 ((j:Int)-(i:Int)),lo,hi,.int .i64 (hiW (SS k)),.int .u64 (loW (SS k))] 196
theorem rawpart_w (K A R n d E:Int) (p:Option Addr) (vb vo len cap m vc:Nat) (w:World) (i j:Nat) (lo hi S:Int) (raw V:List Int) (SS:Nat->Int) (hm:raw.length=m) (hij:i<j/\j<=m/\m<=vc/\m<=300) (hV:V=(raw.drop i).take (j-i)) (hr:IntsIn w (some ⟨vb,vo,none⟩) raw) (h0:SS 0=0) (hS:SS V.length=S)
  (c1:∀W,Below w.heap.size w W->Blk W (w.heap.size+1+1) (V.map (Value.int .i64)).toArray 2->Cb 221 #[.slice (some ⟨w.heap.size+1+1,0,none⟩) V.length V.length] W (lo))
  (c2:∀W,Below w.heap.size w W->Blk W (w.heap.size+1+1) (V.map (Value.int .i64)).toArray 2->Cb 222 #[.slice (some ⟨w.heap.size+1+1,0,none⟩) V.length V.length] W (hi))
  (c3:∀v,v∈V->∀W,Below w.heap.size w W->Cb 117 #[v] W (.agg #[.int .i64 (hiW (v)),.int .u64 (loW (v))]))
  (c4:∀(k:Nat) (v:Int),V[k]? =some v->∀W,Below w.heap.size w W->Cb 16 #[.agg #[.int .i64 (hiW (SS k)),.int .u64 (loW (SS k))],.agg #[.int .i64 (hiW (v)),.int .u64 (loW (v))]] W (.tuple #[.agg #[.int .i64 (hiW (SS (k+1))),.int .u64 (loW (SS (k+1)))],.int .i64 0])):
  Cb 203 #[.agg #[K,.slice p len cap,A,R,n,d,.slice (some ⟨vb,vo,none⟩) m vc,E],.int .i64 (i:Int),.int .i64 (j:Int)] w (.agg #[.int .i64 ((j:Int)-(i:Int)),lo,hi,.int .i64 (hiW (S)),.int .u64 (loW (S))]):=by
 have hl:V.length=j-i:=by rw[hV];simp;omega
 have hlc:(j:Int)-(i:Int)=(V.length:Int):=by omega
 obtain⟨C,hC,hmk⟩:=make_ints _ V.length hlc (by omega)
 have hW0:hiW (SS 0)=0:=by rw[h0];rfl
 have hW1:loW (SS 0)=0:=by rw[h0];rfl
 have hcs:(V.map (Value.int .i64)).length=C.size:=by rw[hC];simp
 have hpart:=fun(W:World) (hW:Below w.heap.size w W) (k:Nat) (v:Value) (hv:(V.map (Value.int .i64))[k]? =some v)=>IntsIn.part (hr.below hW) k v (hV▸hv)
 replace hpart:=Hd hpart
 replace hV:=Hd hV
 replace hW0:=Hd hW0
 replace hW1:=Hd hW1
 replace h0:=Hd h0
 replace hS:=Hd hS
 replace c3:=Hd c3
 replace c4:=Hd c4
 replace hlc:=Hd hlc
 replace hl:=Hd hl
 replace hm:=Hd hm
 replace hC:=Hd hC
 replace hcs:=Hd hcs
 have H_c1:=Hd c1
 clear c1
 have H_c2:=Hd c2
 clear c2
 go_enter Tryz.func203,Tryz.ntmps203
 go_upto_region 2 with(fail)
 refine wp_cutB w (Bc w.heap.size #[K,.slice p len cap,A,R,n,d,.slice (some ⟨vb,vo,none⟩) m vc,E] 179<|Bc (w.heap.size+1) #[.int .i64 0,.int .i64 0,.int .i64 0,.int .i64 0,.int .u64 0] 196<|Bc (w.heap.size+1+1) C 2<|Bz) ?_
 rintro W1 hW z2 ⟨⟨b1,yb1,k1,f1⟩,⟨b2,yb2,k2,f2⟩,⟨b3,yb3,k3,f3⟩,-⟩
 have hcp:=run_copyK Tryz.prog W1 96 96 3 2 1 (w.heap.size+1+1) V.length V.length ⟨vb,vo+i,none⟩ (j-i) (vc-i) C 2 (V.map (Value.int .i64)) (by kernel_rfl) (by kernel_rfl) b3 (by rw[List.length_map,<-hl.out,Nat.mul_one];exact(Nat.min_self _).symm) (hpart.out _ hW) hcs.out (fun v hv=>by simp only[List.mem_map] at hv;obtain⟨x,_,rfl⟩:=hv;rfl)
 go_upto_region 3 with(fail)
 clear hcp k1 f1 k2 f2 k3 f3 hmk
 refine wp_facts (fun W'=>Below w.heap.size w W'/\Blk W' w.heap.size #[K,.slice p len cap,A,R,n,d,.slice (some ⟨vb,vo,none⟩) m vc,E] 179/\Blk W' (w.heap.size+1) #[.int .i64 0,.int .i64 0,.int .i64 0,.int .i64 0,.int .u64 0] 196/\Blk W' (w.heap.size+1+1) (V.map (Value.int .i64)).toArray 2) ⟨below_setRow hW (by omega) _,?_,?_,setRow_heap _ _ _ _ _ (0,0) b3⟩ ?_
 ·exact(setRow_other _ _ _ _ (by omega)).trans b1
 ·exact(setRow_other _ _ _ _ (by omega)).trans b2
 clear hW b1 b2 b3
 rintro W3 ⟨hW,b1,b2,b3⟩
 have hz0:=hW.size
 have hz1:=b1.lt
 have hz2:=b2.lt
 have hz3:=b3.lt
 have k1:=b1.cell
 have f1:=b1.frozen
 have k2:=b2.cell
 have f2:=b2.frozen
 have k3:=b3.cell
 have f3:=b3.frozen
 go_wp2_with fail
 refine(H_c1.out _ (belowAny) (blkAny)).mono ?_
 rintro e w8 ⟨rfl,hb8⟩
 have z9:=hb8.size
 try simp at z9
 clear k1 f1 k2 f2 k3 f3
 refine haveB w w8 (Bc w.heap.size #[K,.slice p len cap,A,R,n,d,.slice (some ⟨vb,vo,none⟩) m vc,E] 179<|Bc (w.heap.size+1) #[.int .i64 0,.int .i64 0,.int .i64 0,.int .i64 0,.int .u64 0] 196<|Bc (w.heap.size+1+1) (V.map (Value.int .i64)).toArray 2<|Bz) ?_
 clear b1 b2 b3 hW
 rintro hW z10 ⟨⟨b1,yb1,k1,f1⟩,⟨b2,yb2,k2,f2⟩,⟨b3,yb3,k3,f3⟩,-⟩
 clear hb8
 go_wp2_with fail
 refine(H_c2.out _ (belowAny) (blkAny)).mono ?_
 rintro e w11 ⟨rfl,hb11⟩
 have z12:=hb11.size
 try simp at z12
 clear k1 f1 k2 f2 k3 f3
 refine haveB w w11 (Bc w.heap.size #[K,.slice p len cap,A,R,n,d,.slice (some ⟨vb,vo,none⟩) m vc,E] 179<|Bc (w.heap.size+1) #[.int .i64 0,.int .i64 0,.int .i64 0,.int .i64 0,.int .u64 0] 196<|Bc (w.heap.size+1+1) (V.map (Value.int .i64)).toArray 2<|Bz) ?_
 clear b1 b2 b3 hW
 rintro hW z13 ⟨⟨b1,yb1,k1,f1⟩,⟨b2,yb2,k2,f2⟩,⟨b3,yb3,k3,f3⟩,-⟩
 clear hb11
 go_upto_region 4 with(fail)
 clear k1 f1 k2 f2 k3 f3
 refine wp_cutB w (Bc w.heap.size #[K,.slice p len cap,A,R,n,d,.slice (some ⟨vb,vo,none⟩) m vc,E] 179<|Bc (w.heap.size+1) #[.int .i64 0,.int .i64 0,.int .i64 0,.int .i64 0,.int .u64 0] 196<|Bc (w.heap.size+1+1) (V.map (Value.int .i64)).toArray 2<|Bc w11.heap.size #[.int .i64 ((j:Int)-(i:Int)),lo,hi,.int .i64 0,.int .u64 0] 196<|Bz) ?_
 clear b1 b2 b3 hW
 rintro W14 hW z15 ⟨⟨b1,yb1,k1,f1⟩,⟨b2,yb2,k2,f2⟩,⟨b3,yb3,k3,f3⟩,⟨b4,yb4,k4,f4⟩,-⟩
 clear H_c1 H_c2 b1
 go_wp2
 obtain⟨o,ho⟩:∃o,o=w11.heap.size:=⟨_,rfl⟩
 rw[<-ho] at b4
 have ho1:w.heap.size+1+1<o:=by omega
 replace ho:=Hd ho
 rw[show w11.heap.size=o from ho.out.symm]
 refine wp_loop (rpRel w i j lo hi V SS o) (fun a' _=>V.length-(intAt (a'.tmps.getD 33 undef)).toNat) ?_ ?_
 ·unfold rpRel
  exact⟨hW,b2,b3,0,frame_ex rfl,by omega,by rw[hW0.out,hW1.out];exact b4⟩
 ·clear hW b2 b3 b4
  rintro a' W ⟨hW,b1,b2,k,⟨u,rfl⟩,hk,b3⟩
  have hz:=hW.size
  have hz4:=b1.lt
  have hz5:=b2.lt
  have hz6:=b3.lt
  have hlen:V.length<=300:=by have:=hl.out;omega
  rcases Nat.lt_or_ge k V.length with hlt|hge
  ·obtain⟨v,hri⟩:∃v,V[k]? =some v:=⟨V[k],List.getElem?_eq_getElem hlt⟩
   have hm:v∈V:=List.mem_of_getElem? hri
   have q0:W.cell? ⟨w.heap.size+1+1,k,none⟩=some (v):=by rw[b2.cell];simp[hri]
   replace c3:=c3.out
   replace c4:=c4.out
   replace hri:=Hd hri
   have H_c31:=Hd (c3 v hm)
   have H_c41:=Hd (c4 k v hri.out)
   clear c3 c4
   have k3:=b3.cell
   have f3:=b3.frozen
   go_upto_region 7 with(fail)
   clear k3 f3 q0
   refine wp_cutB w (Bc (w.heap.size+1) #[.int .i64 0,.int .i64 0,.int .i64 0,.int .i64 0,.int .u64 0] 196<|Bc (w.heap.size+1+1) (V.map (Value.int .i64)).toArray 2<|Bc o #[.int .i64 ((j:Int)-(i:Int)),lo,hi,.int .i64 (hiW (SS k)),.int .u64 (loW (SS k))] 196<|Bz) ?_
   clear b1 b2 b3 hW
   rintro W1 hW z2 hL
   refine wp_regD 8 48 hW hL ?_
   iterate 3 refine dA ?_
   refine cA (fun W' hC=>H_c31.out W' (hW.trans (hC.1.of_priv hW.size))) ?_
   refine cA (fun W' hC=>H_c41.out W' (hW.trans (hC.1.of_priv hW.size))) ?_
   iterate 3 refine dA ?_
   clear hW hL
   rintro W3 hW z4 hL
   simp only[ndR]
   intros
   simp only[ndS]
   obtain⟨⟨b1,yb1,k1,f1⟩,⟨b2,yb2,k2,f2⟩,⟨b3,yb3,k3,f3⟩,-⟩:=hL
   go_wp2
   rw[show (k:Int)+1=((k+1:Nat):Int) by omega]
   refine⟨?_,by simp[intAt];omega⟩
   unfold rpRel
   exact⟨belowAny,blkAny,blkAny,k+1,frame_ex rfl,by omega,blkAny⟩
  ·have e:k=V.length:=by omega
   subst e
   have k1:=b1.cell
   have f1:=b1.frozen
   have k2:=b2.cell
   have f2:=b2.frozen
   have k3:=b3.cell
   have f3:=b3.frozen
   go_wp2
   refine bodyPost_ret (v:= .agg #[.int .i64 ((j:Int)-(i:Int)),lo,hi,.int .i64 (hiW (SS V.length)),.int .u64 (loW (SS V.length))]) (by simp[results,Tryz.results203,go_sem,k1,f1,k2,f2,k3,f3,yb1,yb2,yb3]) rfl ⟨by rw[hS.out],belowAny⟩
def lsum:List Int->Int
 | []=>0
 |x::l=>x+lsum l
theorem lsum_append (a b:List Int):lsum (a++b)=lsum a+lsum b:=by
 induction a with
 |nil=>simp[lsum]
 |cons x a ih=>simp[lsum,ih];omega
theorem lsum_range (f:Nat->Int):∀n,lsum ((List.range n).map f)=sumI f n
 |0=>rfl
 |n+1=>by rw[List.range_succ,List.map_append,lsum_append,lsum_range f n];simp[lsum,sumI]
theorem lsum_bd {l:List Int} {B:Int} (h:∀v,v∈l-> -B<=v/\v<=B): -(B*l.length)<=lsum l/\lsum l<=B*l.length:=by
 induction l with
 |nil=>simp[lsum]
 |cons x l ih=>
  have a:=ih fun v hv=>h v (by simp[hv])
  have b:=h x (by simp)
  simp only[lsum,List.length_cons]
  rw[Int.natCast_add,Int.mul_add]
  omega
theorem foldl_mn (l:List Int):∀x,(l.foldl mn x<=x/\∀v,v∈l->l.foldl mn x<=v)/\(l.foldl mn x=x∨l.foldl mn x∈l):=by
 induction l with
 |nil=>intro x;simp
 |cons y l ih=>
  intro x
  obtain⟨⟨a,b⟩,c⟩:=ih (mn x y)
  obtain⟨m1,m2,m3⟩:=mn_spec x y
  simp only[List.foldl_cons]
  refine⟨⟨by omega,fun v hv=> ?_⟩,?_⟩
  ·simp only[List.mem_cons] at hv
   rcases hv with rfl|hv
   ·omega
   ·exact b v hv
  ·rcases c with c|c
   ·rcases m3 with m|m
    ·left;omega
    ·right;rw[c,m];simp
   ·right;simp[c]
theorem foldl_mx (l:List Int):∀x,(x<=l.foldl mx x/\∀v,v∈l->v<=l.foldl mx x)/\(l.foldl mx x=x∨l.foldl mx x∈l):=by
 induction l with
 |nil=>intro x;simp
 |cons y l ih=>
  intro x
  obtain⟨⟨a,b⟩,c⟩:=ih (mx x y)
  obtain⟨m1,m2,m3⟩:=mx_spec x y
  simp only[List.foldl_cons]
  refine⟨⟨by omega,fun v hv=> ?_⟩,?_⟩
  ·simp only[List.mem_cons] at hv
   rcases hv with rfl|hv
   ·omega
   ·exact b v hv
  ·rcases c with c|c
   ·rcases m3 with m|m
    ·left;omega
    ·right;rw[c,m];simp
   ·right;simp[c]
theorem minL_is {l:List Int} (h:l≠ []):minL l∈l/\∀v,v∈l->minL l<=v:=by
 cases l with
 |nil=>exact absurd rfl h
 |cons x l=>
  obtain⟨⟨a,b⟩,c⟩:=foldl_mn l x
  refine⟨?_,fun v hv=> ?_⟩
  ·rcases c with c|c
   ·simp only[minL,c];simp
   ·simp only[minL];simp[c]
  ·simp only[List.mem_cons] at hv
   rcases hv with rfl|hv
   ·exact a
   ·exact b v hv
theorem maxL_is {l:List Int} (h:l≠ []):maxL l∈l/\∀v,v∈l->v<=maxL l:=by
 cases l with
 |nil=>exact absurd rfl h
 |cons x l=>
  obtain⟨⟨a,b⟩,c⟩:=foldl_mx l x
  refine⟨?_,fun v hv=> ?_⟩
  ·rcases c with c|c
   ·simp only[maxL,c];simp
   ·simp only[maxL];simp[c]
  ·simp only[List.mem_cons] at hv
   rcases hv with rfl|hv
   ·exact a
   ·exact b v hv
theorem minL_eq {l:List Int} {m:Int} (h:m∈l) (k:∀v,v∈l->m<=v):minL l=m:=by
 have a:=minL_is (l:=l) (fun e=>by rw[e] at h;simp at h)
 have:=k _ a.1
 have:=a.2 _ h
 omega
theorem maxL_eq {l:List Int} {m:Int} (h:m∈l) (k:∀v,v∈l->v<=m):maxL l=m:=by
 have a:=maxL_is (l:=l) (fun e=>by rw[e] at h;simp at h)
 have:=k _ a.1
 have:=a.2 _ h
 omega
theorem minL_append {a b:List Int} (ha:a≠ []) (hb:b≠ []):minL (a++b)=min (minL a) (minL b):=by
 obtain⟨a1,a2⟩:=minL_is ha
 obtain⟨b1,b2⟩:=minL_is hb
 apply minL_eq
 ·rw[Int.min_def];split<;>simp[a1,b1]
 ·intro v hv
  simp only[List.mem_append] at hv
  rcases hv with hv|hv
  ·have:=a2 v hv;omega
  ·have:=b2 v hv;omega
theorem maxL_append {a b:List Int} (ha:a≠ []) (hb:b≠ []):maxL (a++b)=max (maxL a) (maxL b):=by
 obtain⟨a1,a2⟩:=maxL_is ha
 obtain⟨b1,b2⟩:=maxL_is hb
 apply maxL_eq
 ·rw[Int.max_def];split<;>simp[a1,b1]
 ·intro v hv
  simp only[List.mem_append] at hv
  rcases hv with hv|hv
  ·have:=a2 v hv;omega
  ·have:=b2 v hv;omega
def slice (l:List Int) (i j:Nat):List Int:=(l.take j).drop i
theorem slice_at (l:List Int) (i j k:Nat):(slice l i j)[k]? =if i+k<j then l[i+k]? else none:=by
 unfold slice
 rw[List.getElem?_drop,List.getElem?_take]
theorem length_slice {l:List Int} {i j:Nat} (hj:j<=l.length):(slice l i j).length=j-i:=by unfold slice;simp;omega
theorem slice_map (f:Int->Int) (l:List Int) (i j:Nat):slice (l.map f) i j=(slice l i j).map f:=by unfold slice;rw[<-List.map_take,<-List.map_drop]
theorem times_piece (r:RunT) (i j:Int) (hc:0<=r.c):timesL (pieceOf r i j)=slice (timesR r) i.toNat j.toNat:=by
 obtain⟨x1,x2,x3⟩:=mx_spec i 0
 obtain⟨y1,y2,y3⟩:=mn_spec j r.c
 have hx:mx i 0=(i.toNat:Int):=by omega
 have at':∀k:Nat,(timesR r)[k]? =if (k:Int)<r.c then some (r.f+r.s*(k:Int)) else none:=by
  intro k
  split
  ·exact timesR_at r k (by assumption)
  ·rw[List.getElem?_eq_none_iff,length_timesR];omega
 apply List.ext_getElem?
 intro k
 rw[slice_at,at']
 unfold pieceOf
 split
 ·rename_i h
  simp only[timesL,List.append_nil]
  by_cases hk:(k:Int)<mn j r.c-mx i 0
  ·rw[timesR_at _ k hk,if_pos (by omega),if_pos (by omega),hx,Int.natCast_add,Int.mul_add]
   simp only[Option.some.injEq]
   omega
  ·rw[List.getElem?_eq_none_iff.2 (by rw[length_timesR];simp only[];omega)]
   split
   ·rw[if_neg (by omega)]
   ·rfl
 ·simp only[timesL,List.getElem?_nil]
  split
  ·rw[if_neg (by omega)]
  ·rfl
theorem slice_append (a b:List Int) (i j:Nat):slice (a++b) i j=slice a i j++slice b (i-a.length) (j-a.length):=by
 unfold slice
 rw[List.take_append,List.drop_append]
 congr 1
 by_cases h:a.length<=j
 ·simp[List.length_take,Nat.min_eq_right h]
 ·rw[show j-a.length=0 by omega];simp
theorem timesL_append (a b:List RunT):timesL (a++b)=timesL a++timesL b:=by
 induction a with
 |nil=>rfl
 |cons r a ih=>simp[timesL,ih]
theorem times_pieces :∀(l:List RunT) (i j:Int),(∀r,r∈l->0<=r.c)->timesL (piecesL l i j)=slice (timesL l) i.toNat j.toNat
 | [],i,j,_=>by simp[piecesL,timesL,slice]
 |r::l,i,j,h=>by
  have hr:=h r (by simp)
  simp only[piecesL,timesL_append]
  rw[show timesL (r::l)=timesR r++timesL l from rfl,slice_append,times_piece r i j hr,times_pieces l (i-r.c) (j-r.c) fun r hr=>h r (by simp[hr]),length_timesR]
  congr 2<;>omega
def valAt (s:SegT) (t:Int):Int:=lineVal s.A s.R s.n s.d (t-firstT s.runs)
def vals (s:SegT):List Int:=if s.K=4 then s.raw else (timesL s.runs).map (valAt s)
def partA (W:List Int):Array Value:= #[.int .i64 W.length,.int .i64 (minL W),.int .i64 (maxL W),.int .i64 (hiW (lsum W)),.int .u64 (loW (lsum W))]
theorem isBack_iff {v:Int}:isBack v=true↔-2305844108725321728<=v/\v<=2305844108725321728:=by unfold isBack;simp
theorem lineVal_up {A R n d t t':Int} (hd:1<=d) (hn:0<=n) (h:t<=t'):lineVal A R n d t<=lineVal A R n d t':=by
 unfold lineVal
 have:=Int.mul_le_mul_of_nonneg_left h hn
 have:=Int.ediv_le_ediv (show 0<d by omega) (show n*t+R<=n*t'+R by omega)
 omega
theorem lineVal_down {A R n d t t':Int} (hd:1<=d) (hn:n<=0) (h:t<=t'):lineVal A R n d t'<=lineVal A R n d t:=by
 unfold lineVal
 have:=Int.mul_le_mul_of_nonpos_left hn h
 have:=Int.ediv_le_ediv (show 0<d by omega) (show n*t'+R<=n*t+R by omega)
 omega
theorem lineVal_between {A R n d a t b:Int} (hd:1<=d) (h1:a<=t) (h2:t<=b):
  min (lineVal A R n d a) (lineVal A R n d b)<=lineVal A R n d t/\lineVal A R n d t<=max (lineVal A R n d a) (lineVal A R n d b):=by
 rcases Int.le_total 0 n with hn|hn
 ·have:=lineVal_up (A:=A) (R:=R) hd hn h1
  have:=lineVal_up (A:=A) (R:=R) hd hn h2
  omega
 ·have:=lineVal_down (A:=A) (R:=R) hd hn h1
  have:=lineVal_down (A:=A) (R:=R) hd hn h2
  omega
structure LineSeg (s:SegT):Prop where
 runs:RunsOk s.runs
 line:LineOk s.A s.R s.n s.d
 ends:endsOk s.A s.R s.n s.d 0 (lastT s.runs-firstT s.runs)=true
theorem at_times {l:List RunT} (h:RunsOk l) {k:Nat} (hk:(k:Int)<cnt l):(timesL l)[k]? =some (atV l k):=by
 obtain⟨v,e,_,e',_⟩:=atL_some h (show (0:Int)<=k by omega) hk
 rw[atL_eq l k fun r hr=>by have:=(h.each r hr).c0;omega] at e
 rw[e,e']
theorem length_times {l:List RunT} (h:RunsOk l):((timesL l).length:Int)=cnt l:=length_timesL l fun r hr=>by have:=(h.each r hr).c0;omega
theorem mem_times {l:List RunT} (h:RunsOk l) {t:Int} (ht:t∈timesL l):firstT l<=t/\t<=lastT l/\0<=t/\t<=281474976710656:=by
 obtain⟨k,hk⟩:=List.getElem?_of_mem ht
 have hlt:k<(timesL l).length:=by rw[List.getElem?_eq_some_iff] at hk;exact hk.1
 have hl:=length_times h
 rw[at_times h (by omega)] at hk
 simp only[Option.some.injEq] at hk
 subst hk
 have:=at_in h (show (0:Int)<=k by omega) (by omega)
 exact⟨at_mono h (by omega) (by omega) (by omega),at_mono h (by omega) (by omega) (by omega),this.1,this.2⟩
theorem first_in {l:List RunT} (h:RunsOk l):0<=firstT l/\firstT l<=281474976710656:=at_in h (by omega) (by have:=cnt_pos h;omega)
theorem last_in {l:List RunT} (h:RunsOk l):0<=lastT l/\lastT l<=281474976710656:=at_in h (by have:=cnt_pos h;omega) (by omega)
theorem LineSeg.back {s:SegT} (h:LineSeg s) {t:Int} (h1:firstT s.runs<=t) (h2:t<=lastT s.runs):isBack (valAt s t)=true:=by
 have e:=h.ends
 unfold endsOk at e
 simp only[Bool.and_eq_true,isBack_iff] at e
 have:=lineVal_between (A:=s.A) (R:=s.R) (n:=s.n) (d:=s.d) h.line.d0 (show 0<=t-firstT s.runs by omega) (show t-firstT s.runs<=lastT s.runs-firstT s.runs by omega)
 rw[isBack_iff]
 unfold valAt
 omega
theorem mem_slice {l:List Int} {i j:Nat} {v:Int} (h:v∈slice l i j):∃k,i<=k/\k<j/\l[k]? =some v:=by
 obtain⟨k,hk⟩:=List.getElem?_of_mem h
 rw[slice_at] at hk
 split at hk
 ·exact⟨i+k,by omega,by omega,hk⟩
 ·cases hk
theorem slice_mem {l:List Int} {i j k:Nat} {v:Int} (h1:i<=k) (h2:k<j) (h:l[k]? =some v):v∈slice l i j:=by
 refine List.mem_of_getElem? (i:=k-i) ?_
 rw[slice_at,if_pos (by omega),show i+(k-i)=k by omega]
 exact h
theorem mem_timesL {l:List RunT} {r:RunT} (h:r∈l) {t:Int} (ht:t∈timesR r):t∈timesL l:=by
 induction l with
 |nil=>simp at h
 |cons a l ih=>
  simp only[timesL,List.mem_append]
  simp only[List.mem_cons] at h
  rcases h with rfl|h
  ·exact .inl ht
  ·exact .inr (ih h)
theorem piece_shape :∀ {l:List RunT} {i j:Int},(∀r,r∈l->RunOk r)->∀r,r∈piecesL l i j->1<=r.c/\r.c<=256/\0<=r.s/\r.s<=281474976710656
 | [],_,_,_,r,h=>by simp[piecesL] at h
 |a::l,i,j,ha,r,h=>by
  have h0:=ha a (by simp)
  simp only[piecesL,List.mem_append] at h
  rcases h with h|h
  ·unfold pieceOf at h
   split at h
   ·simp only[List.mem_singleton] at h
    subst h
    obtain⟨x1,x2,-⟩:=mx_spec i 0
    obtain⟨y1,y2,-⟩:=mn_spec j a.c
    have:=h0.c1;have:=h0.s0;have:=h0.s1
    exact⟨by simp only[];omega,by simp only[];omega,h0.s0,h0.s1⟩
   ·simp at h
  ·exact piece_shape (fun r hr=>ha r (by simp[hr])) r h
theorem piece_ok {l:List RunT} (hl:RunsOk l) {i j:Int} {r:RunT} (h:r∈piecesL l i j):
  1<=r.c/\r.c<=256/\0<=r.s/\r.s<=281474976710656/\firstT l<=r.f/\r.f+r.s*(r.c-1)<=lastT l/\∀t,t∈timesR r->t∈timesL l:=by
 obtain⟨c0,c1,s0,s1⟩:=piece_shape hl.each r h
 have hsub:∀t,t∈timesR r->t∈timesL l:=by
  intro t ht
  have:=mem_timesL h ht
  rw[times_pieces l i j fun r hr=>by have:=(hl.each r hr).c0;omega] at this
  obtain⟨k,_,_,hk⟩:=mem_slice this
  exact List.mem_of_getElem? hk
 have a:=timesR_at r 0 (by omega)
 have b:=timesR_at r (r.c.toNat-1) (by omega)
 have e:((r.c.toNat-1:Nat):Int)=r.c-1:=by omega
 rw[e] at b
 have a':=mem_times hl (hsub _ (List.mem_of_getElem? a))
 have b':=mem_times hl (hsub _ (List.mem_of_getElem? b))
 simp at a'
 exact⟨c0,c1,s0,s1,a'.1,b'.2.1,hsub⟩
theorem c_add_in (a b:Int) (w:World) (ha:W128 a) (hb:W128 b) (hab:W128 (a+b)):
  Cb 16 #[wideV a,wideV b] w (.tuple #[wideV (a+b),.int .i64 0]):=by
 have:=c_Add a b w ha hb
 rw[inW_in hab,wrapW_in hab] at this
 exact this
def sumP (s:SegT) (P:List RunT):Int:=lsum ((timesL P).map (valAt s))
theorem sumP_bd {s:SegT} (h:LineSeg s) {P:List RunT} (hP:∀t,t∈timesL P->t∈timesL s.runs) (hn:(timesL P).length<=256): -590296091833682362368<=sumP s P/\sumP s P<=590296091833682362368:=by
 have:=lsum_bd (l:=(timesL P).map (valAt s)) (B:=2305844108725321728) (by
  intro v hv
  simp only[List.mem_map] at hv
  obtain⟨t,ht,rfl⟩:=hv
  have:=mem_times h.runs (hP t ht)
  exact isBack_iff.1 (h.back this.1 this.2.1))
 unfold sumP
 rw[List.length_map] at this
 omega
theorem tSum (s:SegT) (r:RunT):lsum ((timesR r).map (valAt s))=sumI (fun i=>lineVal s.A s.R s.n s.d (r.f-firstT s.runs+(i:Int)*r.s)) r.c.toNat:=by
 unfold timesR
 rw[List.map_map,lsum_range]
 refine sumI_congr _ fun i _=> ?_
 simp only[Function.comp,valAt]
 congr 1
 rw[Int.mul_comm];omega
theorem sumP_take {s:SegT} {P:List RunT} {k:Nat} {r:RunT} (hr:P[k]? =some r):sumP s (P.take (k+1))=sumP s (P.take k)+lsum ((timesR r).map (valAt s)):=by
 rw[List.getElem?_eq_some_iff] at hr
 obtain⟨hi,rfl⟩:=hr
 unfold sumP
 rw[List.take_succ_eq_append_getElem hi,timesL_append,List.map_append,lsum_append]
 simp[timesL]
theorem times_take {P:List RunT} (k:Nat):∃Q,timesL P=timesL (P.take k)++Q:=⟨timesL (P.drop k),by rw[<-timesL_append,List.take_append_drop]⟩
theorem c_linePart (s:SegT) (p q:Option Addr) (cap vc:Nat) (i j:Int) (w:World) (h:SegIn w s p q) (hs:LineSeg s) (hK:s.K≠4) (hi:0<=i) (hij:i<j) (hj:j<=cnt s.runs):
  Cb 201 #[.agg (segA s p q cap vc),.int .i64 i,.int .i64 j] w (.agg (partA (slice (vals s) i.toNat j.toNat))):=by
 have hl:=hs.runs
 obtain⟨n0,n1⟩:=cnt_pos hl
 have hf:=first_in hl
 have hla:=last_in hl
 have ai:=at_in hl hi (show i<cnt s.runs by omega)
 have aj:=at_in hl (show 0<=j-1 by omega) (by omega)
 have m1:firstT s.runs<=atV s.runs i:=at_mono hl (by omega) hi (by omega)
 have m2:atV s.runs i<=atV s.runs (j-1):=at_mono hl hi (by omega) (by omega)
 have m3:atV s.runs (j-1)<=lastT s.runs:=at_mono hl (by omega) (by omega) (by omega)
 have hlen:=length_times hl
 have hpl:=length_piecesL s.runs i j
 have hpt:=times_pieces s.runs i j fun r hr=>by have:=(hl.each r hr).c0;omega
 have hfew:=hl.few
 have hE:∀W,Calls Tryz.prog 215 #[.agg #[.int .i64 s.A,.int .i64 s.R,.int .i64 s.n,.int .i64 s.d],.int .i64 (atV s.runs i-firstT s.runs),.int .i64 (atV s.runs (j-1)-firstT s.runs)] W fun e w'=>
   e= .returned (.tuple #[.agg #[.int .i64 (min (valAt s (atV s.runs i)) (valAt s (atV s.runs (j-1)))),.int .i64 (max (valAt s (atV s.runs i)) (valAt s (atV s.runs (j-1))))],.int .i64 0])/\Below W.heap.size W w':=by
  intro W
  have:=c_Ends s.A s.R s.n s.d (atV s.runs i-firstT s.runs) (atV s.runs (j-1)-firstT s.runs) W hs.line (by omega) (by omega) (by omega)
  have e:endsOk s.A s.R s.n s.d (atV s.runs i-firstT s.runs) (atV s.runs (j-1)-firstT s.runs)=true:=by
   unfold endsOk
   rw[Bool.and_eq_true]
   exact⟨hs.back m1 (by omega),hs.back (by omega) m3⟩
  rw[e] at this
  exact this
 have hvals:vals s=(timesL s.runs).map (valAt s):=by unfold vals;rw[if_neg hK]
 have hsub:∀k t,t∈timesL ((piecesL s.runs i j).take k)->t∈timesL s.runs:=by
  intro k t ht
  obtain⟨Q,hQ⟩:=times_take (P:=piecesL s.runs i j) k
  have:t∈timesL (piecesL s.runs i j):=by rw[hQ];simp[ht]
  rw[hpt] at this
  obtain⟨k,_,_,hk⟩:=mem_slice this
  exact List.mem_of_getElem? hk
 have hslen:(slice (timesL s.runs) i.toNat j.toNat).length=j.toNat-i.toNat:=length_slice (by omega)
 have hcnt:∀k,(timesL ((piecesL s.runs i j).take k)).length<=256:=by
  intro k
  obtain⟨Q,hQ⟩:=times_take (P:=piecesL s.runs i j) k
  rw[hpt] at hQ
  have:=congrArg List.length hQ
  rw[hslen,List.length_append] at this
  omega
 have hbd:=fun k=>sumP_bd hs (hsub k) (hcnt k)
 have key:=linepart_w s.K s.A s.R s.n s.d s.E p q s.runs.length cap s.raw.length vc w i j (firstT s.runs) (lastT s.runs-firstT s.runs) (atV s.runs i) (atV s.runs (j-1))
  (min (valAt s (atV s.runs i)) (valAt s (atV s.runs (j-1)))) (max (valAt s (atV s.runs i)) (valAt s (atV s.runs (j-1)))) (lsum (slice (vals s) i.toNat j.toNat)) (piecesL s.runs i j) (fun k=>sumP s ((piecesL s.runs i j).take k)) (fun r=>lsum ((timesR r).map (valAt s)))
  ⟨hi,hij,by omega⟩ hf ai aj (by omega) (fun r hr=>by have:=piece_ok hl hr;have c:=Int.mul_nonneg this.2.2.1 (show 0<=r.c-1 by omega);omega) rfl
  (by simp only[List.take_length];unfold sumP;rw[hpt,hvals,slice_map])
  (fun W hW=>c_span s p q cap vc W hl (h.below hW))
  (fun W hW=>c_at p cap s.runs i W hl (h.runs.below hW) hi (by omega))
  (fun W hW=>c_at p cap s.runs (j-1) W hl (h.runs.below hW) (by omega) (by omega))
  (fun W _=>hE W)
  (fun W hW=>by
   have hp:∃a,p=some a:=by
    have:=hl.some'
    obtain⟨b,o,e,_⟩:=h.runs.at' 0 _ (List.getElem?_eq_getElem this)
    exact⟨_,e⟩
   obtain⟨a,rfl⟩:=hp
   exact c_pieces a cap s.runs i j W hl (h.runs.below hW) hi hij hj)
  (fun r hr W _=>by
   have hp:=piece_ok hl hr
   have c:=Int.mul_nonneg hp.2.2.1 (show 0<=r.c-1 by omega)
   have:=c_fline s.A s.R s.n s.d (r.f-firstT s.runs) r.s r.c.toNat W hs.line ⟨by omega,hp.2.2.1,hp.2.2.2.1,by omega,by omega,by
    rw[Int.toNat_of_nonneg (by omega),Int.mul_comm];omega⟩
   rw[Int.toNat_of_nonneg (by omega)] at this
   rw[tSum]
   exact this)
  (fun k r hr W _=>by
   have e:=sumP_take (s:=s) hr
   have b1:=hbd k
   have b2:=hbd (k+1)
   simp only[e] at b2⊢
   exact c_add_in _ _ W (by unfold W128;omega) (by unfold W128;omega) (by unfold W128;omega))
 refine key.mono ?_
 rintro e w' ⟨rfl,hB⟩
 refine⟨?_,hB⟩
 have hmem:∀v,v∈slice (vals s) i.toNat j.toNat->∃t,v=valAt s t/\atV s.runs i<=t/\t<=atV s.runs (j-1):=by
  intro v hv
  rw[hvals,slice_map,List.mem_map] at hv
  obtain⟨t,ht,rfl⟩:=hv
  obtain⟨k,k1,k2,hk⟩:=mem_slice ht
  rw[at_times hl (by omega)] at hk
  simp only[Option.some.injEq] at hk
  subst hk
  exact⟨_,rfl,at_mono hl hi (by omega) (by omega),at_mono hl (by omega) (by omega) (by omega)⟩
 have hin:∀k:Nat,i<=k->(k:Int)<j->valAt s (atV s.runs k)∈slice (vals s) i.toNat j.toNat:=by
  intro k k1 k2
  refine slice_mem (k:=k) (by omega) (by omega) ?_
  rw[hvals,List.getElem?_map,at_times hl (by omega)]
  rfl
 have hbt:∀v,v∈slice (vals s) i.toNat j.toNat->min (valAt s (atV s.runs i)) (valAt s (atV s.runs (j-1)))<=v/\v<=max (valAt s (atV s.runs i)) (valAt s (atV s.runs (j-1))):=by
  intro v hv
  obtain⟨t,rfl,t1,t2⟩:=hmem v hv
  exact lineVal_between hs.line.d0 (by omega) (by omega)
 have i1:=hin i.toNat (by omega) (by omega)
 have i2:=hin (j-1).toNat (by omega) (by omega)
 rw[Int.toNat_of_nonneg hi] at i1
 rw[Int.toNat_of_nonneg (by omega)] at i2
 have e1:minL (slice (vals s) i.toNat j.toNat)=min (valAt s (atV s.runs i)) (valAt s (atV s.runs (j-1))):=by
  refine minL_eq ?_ fun v hv=>(hbt v hv).1
  rw[Int.min_def];split
  ·exact i1
  ·exact i2
 have e2:maxL (slice (vals s) i.toNat j.toNat)=max (valAt s (atV s.runs i)) (valAt s (atV s.runs (j-1))):=by
  refine maxL_eq ?_ fun v hv=>(hbt v hv).2
  rw[Int.max_def];split
  ·exact i2
  ·exact i1
 have e3:((slice (vals s) i.toNat j.toNat).length:Int)=j-i:=by
  rw[length_slice (by rw[hvals,List.length_map];omega)];omega
 unfold partA
 rw[e1,e2,e3]
attribute [local simp] Oper.looksAt Op.operands Call.operands envOf Det GDet
theorem raw_back {s:SegT} (h:s.raw.all isBack=true) {v:Int} (hv:v∈s.raw): -2305844108725321728<=v/\v<=2305844108725321728:=isBack_iff.1 (List.all_eq_true.1 h v hv)
theorem slice_take {l:List Int} {i j:Nat} (h:i<=j):slice l i j=(l.drop i).take (j-i):=by
 apply List.ext_getElem?
 intro k
 rw[slice_at,List.getElem?_take,List.getElem?_drop]
 by_cases hk:i+k<j
 ·rw[if_pos hk,if_pos (by omega)]
 ·rw[if_neg hk,if_neg (by omega)]
theorem c_rawPart (s:SegT) (p q:Option Addr) (cap vc:Nat) (i j:Int) (w:World) (h:SegIn w s p q) (hvc:s.raw.length<=vc) (hs:s.raw.all isBack=true) (hl:(s.raw.length:Int)<=256) (hK:s.K=4) (hi:0<=i) (hij:i<j) (hj:j<=s.raw.length):
  Cb 203 #[.agg (segA s p q cap vc),i,j] w (.agg (partA (slice (vals s) i.toNat j.toNat))):=by
 obtain⟨a,rfl⟩:∃a:Nat,i=(a:Int):=⟨i.toNat,by omega⟩
 obtain⟨b,rfl⟩:∃a:Nat,j=(a:Int):=⟨j.toNat,by omega⟩
 have hv:vals s=s.raw:=by unfold vals;rw[if_pos hK]
 obtain⟨vb,vo,hq,_⟩:=h.raw.at' 0 _ (List.getElem?_eq_getElem (show 0<s.raw.length by omega))
 subst hq
 have hlen:(slice s.raw a b).length=b-a:=length_slice (by omega)
 have hne:0<(slice s.raw a b).length:=by omega
 have hm:∀v,v∈slice s.raw a b->v∈s.raw:=by
  intro v hv
  obtain⟨k,_,_,hk⟩:=mem_slice hv
  exact List.mem_of_getElem? hk
 have hbd:∀k,-590296091833682362368<=lsum ((slice s.raw a b).take k)/\lsum ((slice s.raw a b).take k)<=590296091833682362368:=by
  intro k
  have:=lsum_bd (l:=(slice s.raw a b).take k) (B:=2305844108725321728) (fun v hv=>raw_back hs (hm v (List.mem_of_mem_take hv)))
  have:((slice s.raw a b).take k).length<=256:=by rw[List.length_take];omega
  omega
 have key:=rawpart_w s.K s.A s.R s.n s.d s.E p vb vo s.runs.length cap s.raw.length vc w a b (minL (slice s.raw a b)) (maxL (slice s.raw a b)) (lsum (slice s.raw a b)) s.raw (slice s.raw a b) (fun k=>lsum ((slice s.raw a b).take k)) rfl
  ⟨by omega,by omega,hvc,by omega⟩ (slice_take (by omega)) h.raw rfl (by simp only[List.take_length])
  (fun W _ hb=>min_w _ _ _ W hne (by omega) (IntsIn.of_blk hb))
  (fun W _ hb=>max_w _ _ _ W hne (by omega) (IntsIn.of_blk hb))
  (fun v hv W _=>c_Of v W (by have:=raw_back hs (hm v hv);omega))
  (fun k v hv W _=>by
   have b1:=hbd k
   have b2:=hbd (k+1)
   have b3:=raw_back hs (hm v (List.mem_of_getElem? hv))
   have e:(slice s.raw a b).take (k+1)=(slice s.raw a b).take k++ [v]:=by
    rw[List.getElem?_eq_some_iff] at hv
    obtain⟨hi,rfl⟩:=hv
    exact List.take_succ_eq_append_getElem hi
   have e':lsum ((slice s.raw a b).take (k+1))=lsum ((slice s.raw a b).take k)+v:=by rw[e,lsum_append];simp[lsum]
   simp only[e'] at b2⊢
   exact c_add_in _ _ W (by unfold W128;omega) (by unfold W128;omega) (by unfold W128;omega))
 refine key.mono ?_
 rintro e w' ⟨rfl,hB⟩
 refine⟨?_,hB⟩
 rw[hv]
 unfold partA
 rw[show ((b:Int)).toNat=b from rfl,show ((a:Int)).toNat=a from rfl,hlen,show ((b-a:Nat):Int)=(b:Int)-a by omega]
theorem part1_none (K A R n d E:Int) (p q:Option Addr) (len cap m vc:Nat) (w:World) (ga gb:Nat) (a b i j c0 c1' c2' c3' c4':Int) (hga:Blk w ga #[a] 2) (hgb:Blk w gb #[b] 2) (hij:¬i<j)
  (c1:∀W,Below w.heap.size w W->Cb 189 #[.slice p len cap,a,b] W (.tuple #[i,j]))
   :
  Cb 188 #[.agg #[K,.slice p len cap,A,R,n,d,.slice q m vc,E],.pointer (some ⟨ga,0,none⟩),.pointer (some ⟨gb,0,none⟩)] w (.tuple #[.agg #[.int .i64 0,.int .i64 0,.int .i64 0,.int .i64 0,.int .u64 0],.int .i64 9]):=by
 have y1:=hga.lt
 have y2:=hgb.lt
 have H_c1:=Hd c1
 clear c1
 go_enter Tryz.func188,Tryz.ntmps188
 go_upto_region 1 with(fail)
 refine wp_cutB w (Bc w.heap.size #[K,.slice p len cap,A,R,n,d,.slice q m vc,E] 179<|Bc (w.heap.size+1) #[.int .i64 0,.int .i64 0,.int .i64 0,.int .i64 0,.int .u64 0] 196<|Bc ga #[a] 2<|Bc gb #[b] 2<|Bz) ?_
 rintro W1 hW z2 ⟨⟨b1,yb1,k1,f1⟩,⟨b2,yb2,k2,f2⟩,⟨b3,yb3,k3,f3⟩,⟨b4,yb4,k4,f4⟩,-⟩
 go_wp2_with fail
 refine(H_c1.out _ (belowAny)).mono ?_
 rintro e w3 ⟨rfl,hb3⟩
 have z4:=hb3.size
 try simp at z4
 clear k1 f1 k2 f2 k3 f3 k4 f4
 refine haveB w w3 (Bc w.heap.size #[K,.slice p len cap,A,R,n,d,.slice q m vc,E] 179<|Bc (w.heap.size+1) #[.int .i64 0,.int .i64 0,.int .i64 0,.int .i64 0,.int .u64 0] 196<|Bc ga #[a] 2<|Bc gb #[b] 2<|Bz) ?_
 clear b1 b2 b3 b4 hW
 rintro hW z5 ⟨⟨b1,yb1,k1,f1⟩,⟨b2,yb2,k2,f2⟩,⟨b3,yb3,k3,f3⟩,⟨b4,yb4,k4,f4⟩,-⟩
 clear hb3
 go_wp2
 refine bodyPost_ret (by simp[results,Tryz.results188,go_sem,k1,f1,k2,f2,k3,f3,k4,f4,yb1,yb2,yb3,yb4]) rfl ⟨rfl,by exact belowAny⟩
theorem part1_1 (K A R n d E:Int) (p q:Option Addr) (len cap m vc:Nat) (w:World) (ga gb:Nat) (a b i j c0 c1' c2' c3' c4':Int) (hga:Blk w ga #[a] 2) (hgb:Blk w gb #[b] 2) (hij:i<j)
  (c1:∀W,Below w.heap.size w W->Cb 189 #[.slice p len cap,a,b] W (.tuple #[i,j]))
  (c3:∀W,Below w.heap.size w W->Cb 201 #[.agg #[.int .i64 1,.slice p len cap,A,R,n,d,.slice q m vc,E],i,j] W (.agg #[c0,c1',c2',c3',.int .u64 c4'])):
  Cb 188 #[.agg #[.int .i64 1,.slice p len cap,A,R,n,d,.slice q m vc,E],.pointer (some ⟨ga,0,none⟩),.pointer (some ⟨gb,0,none⟩)] w (.tuple #[.agg #[c0,c1',c2',c3',.int .u64 c4'],.int .i64 0]):=by
 have y1:=hga.lt
 have y2:=hgb.lt
 have H_c1:=Hd c1
 clear c1
 have H_c3:=Hd c3
 clear c3
 go_enter Tryz.func188,Tryz.ntmps188
 go_upto_region 1 with(fail)
 refine wp_cutB w (Bc w.heap.size #[.int .i64 1,.slice p len cap,A,R,n,d,.slice q m vc,E] 179<|Bc (w.heap.size+1) #[.int .i64 0,.int .i64 0,.int .i64 0,.int .i64 0,.int .u64 0] 196<|Bc ga #[a] 2<|Bc gb #[b] 2<|Bz) ?_
 rintro W1 hW z2 ⟨⟨b1,yb1,k1,f1⟩,⟨b2,yb2,k2,f2⟩,⟨b3,yb3,k3,f3⟩,⟨b4,yb4,k4,f4⟩,-⟩
 go_wp2_with fail
 refine(H_c1.out _ (belowAny)).mono ?_
 rintro e w3 ⟨rfl,hb3⟩
 have z4:=hb3.size
 try simp at z4
 clear k1 f1 k2 f2 k3 f3 k4 f4
 refine haveB w w3 (Bc w.heap.size #[.int .i64 1,.slice p len cap,A,R,n,d,.slice q m vc,E] 179<|Bc (w.heap.size+1) #[.int .i64 0,.int .i64 0,.int .i64 0,.int .i64 0,.int .u64 0] 196<|Bc ga #[a] 2<|Bc gb #[b] 2<|Bz) ?_
 clear b1 b2 b3 b4 hW
 rintro hW z5 ⟨⟨b1,yb1,k1,f1⟩,⟨b2,yb2,k2,f2⟩,⟨b3,yb3,k3,f3⟩,⟨b4,yb4,k4,f4⟩,-⟩
 clear hb3
 go_upto_region 4 with(fail)
 clear k1 f1 k2 f2 k3 f3 k4 f4
 refine wp_cutB w (Bc w.heap.size #[.int .i64 1,.slice p len cap,A,R,n,d,.slice q m vc,E] 179<|Bc (w.heap.size+1) #[.int .i64 0,.int .i64 0,.int .i64 0,.int .i64 0,.int .u64 0] 196<|Bc ga #[a] 2<|Bc gb #[b] 2<|Bz) ?_
 clear b1 b2 b3 b4 hW
 rintro W6 hW z7 hL
 obtain⟨⟨b1,yb1,k1,f1⟩,⟨b2,yb2,k2,f2⟩,⟨b3,yb3,k3,f3⟩,⟨b4,yb4,k4,f4⟩,-⟩:=id hL
 clear k1 f1 k2 f2 k3 f3 k4 f4
 refine wp_regD 10 31 hW hL ?_
 refine cA (fun W' hC=>kinds_w W') ?_
 iterate 3 refine dA ?_
 apply nd_det (c:= .agg #[.func (.func 197) #[] #[],.func (.func 201) #[] #[]]) (hg:=rfl) (hal:=rfl)
 ·intro a W' hC hE
  simp[Oper.looksAt,Op.operands,Call.operands,envOf,Det,GDet] at hE
  simp[go_sem,Act.eval,hE]
  kernel_rfl
 iterate 4 refine dA ?_
 refine cA (fun W' hC=>H_c3.out W' (hW.trans (hC.1.of_priv hW.size))) ?_
 clear hW hL b1 b2 b3 b4
 rintro W8 hW z9 hL
 simp only[ndR]
 intros
 simp only[ndS]
 obtain⟨⟨b1,yb1,k1,f1⟩,⟨b2,yb2,k2,f2⟩,⟨b3,yb3,k3,f3⟩,⟨b4,yb4,k4,f4⟩,-⟩:=hL
 go_wp2
 refine bodyPost_ret (by simp[results,Tryz.results188,go_sem,k1,f1,k2,f2,k3,f3,k4,f4,yb1,yb2,yb3,yb4]) rfl ⟨rfl,by exact belowAny⟩
theorem part1_2 (K A R n d E:Int) (p q:Option Addr) (len cap m vc:Nat) (w:World) (ga gb:Nat) (a b i j c0 c1' c2' c3' c4':Int) (hga:Blk w ga #[a] 2) (hgb:Blk w gb #[b] 2) (hij:i<j)
  (c1:∀W,Below w.heap.size w W->Cb 189 #[.slice p len cap,a,b] W (.tuple #[i,j]))
  (c3:∀W,Below w.heap.size w W->Cb 201 #[.agg #[.int .i64 2,.slice p len cap,A,R,n,d,.slice q m vc,E],i,j] W (.agg #[c0,c1',c2',c3',.int .u64 c4'])):
  Cb 188 #[.agg #[.int .i64 2,.slice p len cap,A,R,n,d,.slice q m vc,E],.pointer (some ⟨ga,0,none⟩),.pointer (some ⟨gb,0,none⟩)] w (.tuple #[.agg #[c0,c1',c2',c3',.int .u64 c4'],.int .i64 0]):=by
 have y1:=hga.lt
 have y2:=hgb.lt
 have H_c1:=Hd c1
 clear c1
 have H_c3:=Hd c3
 clear c3
 go_enter Tryz.func188,Tryz.ntmps188
 go_upto_region 1 with(fail)
 refine wp_cutB w (Bc w.heap.size #[.int .i64 2,.slice p len cap,A,R,n,d,.slice q m vc,E] 179<|Bc (w.heap.size+1) #[.int .i64 0,.int .i64 0,.int .i64 0,.int .i64 0,.int .u64 0] 196<|Bc ga #[a] 2<|Bc gb #[b] 2<|Bz) ?_
 rintro W1 hW z2 ⟨⟨b1,yb1,k1,f1⟩,⟨b2,yb2,k2,f2⟩,⟨b3,yb3,k3,f3⟩,⟨b4,yb4,k4,f4⟩,-⟩
 go_wp2_with fail
 refine(H_c1.out _ (belowAny)).mono ?_
 rintro e w3 ⟨rfl,hb3⟩
 have z4:=hb3.size
 try simp at z4
 clear k1 f1 k2 f2 k3 f3 k4 f4
 refine haveB w w3 (Bc w.heap.size #[.int .i64 2,.slice p len cap,A,R,n,d,.slice q m vc,E] 179<|Bc (w.heap.size+1) #[.int .i64 0,.int .i64 0,.int .i64 0,.int .i64 0,.int .u64 0] 196<|Bc ga #[a] 2<|Bc gb #[b] 2<|Bz) ?_
 clear b1 b2 b3 b4 hW
 rintro hW z5 ⟨⟨b1,yb1,k1,f1⟩,⟨b2,yb2,k2,f2⟩,⟨b3,yb3,k3,f3⟩,⟨b4,yb4,k4,f4⟩,-⟩
 clear hb3
 go_upto_region 4 with(fail)
 clear k1 f1 k2 f2 k3 f3 k4 f4
 refine wp_cutB w (Bc w.heap.size #[.int .i64 2,.slice p len cap,A,R,n,d,.slice q m vc,E] 179<|Bc (w.heap.size+1) #[.int .i64 0,.int .i64 0,.int .i64 0,.int .i64 0,.int .u64 0] 196<|Bc ga #[a] 2<|Bc gb #[b] 2<|Bz) ?_
 clear b1 b2 b3 b4 hW
 rintro W6 hW z7 hL
 obtain⟨⟨b1,yb1,k1,f1⟩,⟨b2,yb2,k2,f2⟩,⟨b3,yb3,k3,f3⟩,⟨b4,yb4,k4,f4⟩,-⟩:=id hL
 clear k1 f1 k2 f2 k3 f3 k4 f4
 refine wp_regD 10 31 hW hL ?_
 refine cA (fun W' hC=>kinds_w W') ?_
 iterate 3 refine dA ?_
 apply nd_det (c:= .agg #[.func (.func 199) #[] #[],.func (.func 201) #[] #[]]) (hg:=rfl) (hal:=rfl)
 ·intro a W' hC hE
  simp[Oper.looksAt,Op.operands,Call.operands,envOf,Det,GDet] at hE
  simp[go_sem,Act.eval,hE]
  kernel_rfl
 iterate 4 refine dA ?_
 refine cA (fun W' hC=>H_c3.out W' (hW.trans (hC.1.of_priv hW.size))) ?_
 clear hW hL b1 b2 b3 b4
 rintro W8 hW z9 hL
 simp only[ndR]
 intros
 simp only[ndS]
 obtain⟨⟨b1,yb1,k1,f1⟩,⟨b2,yb2,k2,f2⟩,⟨b3,yb3,k3,f3⟩,⟨b4,yb4,k4,f4⟩,-⟩:=hL
 go_wp2
 refine bodyPost_ret (by simp[results,Tryz.results188,go_sem,k1,f1,k2,f2,k3,f3,k4,f4,yb1,yb2,yb3,yb4]) rfl ⟨rfl,by exact belowAny⟩
theorem part1_3 (K A R n d E:Int) (p q:Option Addr) (len cap m vc:Nat) (w:World) (ga gb:Nat) (a b i j c0 c1' c2' c3' c4':Int) (hga:Blk w ga #[a] 2) (hgb:Blk w gb #[b] 2) (hij:i<j)
  (c1:∀W,Below w.heap.size w W->Cb 189 #[.slice p len cap,a,b] W (.tuple #[i,j]))
  (c3:∀W,Below w.heap.size w W->Cb 201 #[.agg #[.int .i64 3,.slice p len cap,A,R,n,d,.slice q m vc,E],i,j] W (.agg #[c0,c1',c2',c3',.int .u64 c4'])):
  Cb 188 #[.agg #[.int .i64 3,.slice p len cap,A,R,n,d,.slice q m vc,E],.pointer (some ⟨ga,0,none⟩),.pointer (some ⟨gb,0,none⟩)] w (.tuple #[.agg #[c0,c1',c2',c3',.int .u64 c4'],.int .i64 0]):=by
 have y1:=hga.lt
 have y2:=hgb.lt
 have H_c1:=Hd c1
 clear c1
 have H_c3:=Hd c3
 clear c3
 go_enter Tryz.func188,Tryz.ntmps188
 go_upto_region 1 with(fail)
 refine wp_cutB w (Bc w.heap.size #[.int .i64 3,.slice p len cap,A,R,n,d,.slice q m vc,E] 179<|Bc (w.heap.size+1) #[.int .i64 0,.int .i64 0,.int .i64 0,.int .i64 0,.int .u64 0] 196<|Bc ga #[a] 2<|Bc gb #[b] 2<|Bz) ?_
 rintro W1 hW z2 ⟨⟨b1,yb1,k1,f1⟩,⟨b2,yb2,k2,f2⟩,⟨b3,yb3,k3,f3⟩,⟨b4,yb4,k4,f4⟩,-⟩
 go_wp2_with fail
 refine(H_c1.out _ (belowAny)).mono ?_
 rintro e w3 ⟨rfl,hb3⟩
 have z4:=hb3.size
 try simp at z4
 clear k1 f1 k2 f2 k3 f3 k4 f4
 refine haveB w w3 (Bc w.heap.size #[.int .i64 3,.slice p len cap,A,R,n,d,.slice q m vc,E] 179<|Bc (w.heap.size+1) #[.int .i64 0,.int .i64 0,.int .i64 0,.int .i64 0,.int .u64 0] 196<|Bc ga #[a] 2<|Bc gb #[b] 2<|Bz) ?_
 clear b1 b2 b3 b4 hW
 rintro hW z5 ⟨⟨b1,yb1,k1,f1⟩,⟨b2,yb2,k2,f2⟩,⟨b3,yb3,k3,f3⟩,⟨b4,yb4,k4,f4⟩,-⟩
 clear hb3
 go_upto_region 4 with(fail)
 clear k1 f1 k2 f2 k3 f3 k4 f4
 refine wp_cutB w (Bc w.heap.size #[.int .i64 3,.slice p len cap,A,R,n,d,.slice q m vc,E] 179<|Bc (w.heap.size+1) #[.int .i64 0,.int .i64 0,.int .i64 0,.int .i64 0,.int .u64 0] 196<|Bc ga #[a] 2<|Bc gb #[b] 2<|Bz) ?_
 clear b1 b2 b3 b4 hW
 rintro W6 hW z7 hL
 obtain⟨⟨b1,yb1,k1,f1⟩,⟨b2,yb2,k2,f2⟩,⟨b3,yb3,k3,f3⟩,⟨b4,yb4,k4,f4⟩,-⟩:=id hL
 clear k1 f1 k2 f2 k3 f3 k4 f4
 refine wp_regD 10 31 hW hL ?_
 refine cA (fun W' hC=>kinds_w W') ?_
 iterate 3 refine dA ?_
 apply nd_det (c:= .agg #[.func (.func 200) #[] #[],.func (.func 201) #[] #[]]) (hg:=rfl) (hal:=rfl)
 ·intro a W' hC hE
  simp[Oper.looksAt,Op.operands,Call.operands,envOf,Det,GDet] at hE
  simp[go_sem,Act.eval,hE]
  kernel_rfl
 iterate 4 refine dA ?_
 refine cA (fun W' hC=>H_c3.out W' (hW.trans (hC.1.of_priv hW.size))) ?_
 clear hW hL b1 b2 b3 b4
 rintro W8 hW z9 hL
 simp only[ndR]
 intros
 simp only[ndS]
 obtain⟨⟨b1,yb1,k1,f1⟩,⟨b2,yb2,k2,f2⟩,⟨b3,yb3,k3,f3⟩,⟨b4,yb4,k4,f4⟩,-⟩:=hL
 go_wp2
 refine bodyPost_ret (by simp[results,Tryz.results188,go_sem,k1,f1,k2,f2,k3,f3,k4,f4,yb1,yb2,yb3,yb4]) rfl ⟨rfl,by exact belowAny⟩
theorem part1_4 (K A R n d E:Int) (p q:Option Addr) (len cap m vc:Nat) (w:World) (ga gb:Nat) (a b i j c0 c1' c2' c3' c4':Int) (hga:Blk w ga #[a] 2) (hgb:Blk w gb #[b] 2) (hij:i<j)
  (c1:∀W,Below w.heap.size w W->Cb 189 #[.slice p len cap,a,b] W (.tuple #[i,j]))
  (c3:∀W,Below w.heap.size w W->Cb 203 #[.agg #[.int .i64 4,.slice p len cap,A,R,n,d,.slice q m vc,E],i,j] W (.agg #[c0,c1',c2',c3',.int .u64 c4'])):
  Cb 188 #[.agg #[.int .i64 4,.slice p len cap,A,R,n,d,.slice q m vc,E],.pointer (some ⟨ga,0,none⟩),.pointer (some ⟨gb,0,none⟩)] w (.tuple #[.agg #[c0,c1',c2',c3',.int .u64 c4'],.int .i64 0]):=by
 have y1:=hga.lt
 have y2:=hgb.lt
 have H_c1:=Hd c1
 clear c1
 have H_c3:=Hd c3
 clear c3
 go_enter Tryz.func188,Tryz.ntmps188
 go_upto_region 1 with(fail)
 refine wp_cutB w (Bc w.heap.size #[.int .i64 4,.slice p len cap,A,R,n,d,.slice q m vc,E] 179<|Bc (w.heap.size+1) #[.int .i64 0,.int .i64 0,.int .i64 0,.int .i64 0,.int .u64 0] 196<|Bc ga #[a] 2<|Bc gb #[b] 2<|Bz) ?_
 rintro W1 hW z2 ⟨⟨b1,yb1,k1,f1⟩,⟨b2,yb2,k2,f2⟩,⟨b3,yb3,k3,f3⟩,⟨b4,yb4,k4,f4⟩,-⟩
 go_wp2_with fail
 refine(H_c1.out _ (belowAny)).mono ?_
 rintro e w3 ⟨rfl,hb3⟩
 have z4:=hb3.size
 try simp at z4
 clear k1 f1 k2 f2 k3 f3 k4 f4
 refine haveB w w3 (Bc w.heap.size #[.int .i64 4,.slice p len cap,A,R,n,d,.slice q m vc,E] 179<|Bc (w.heap.size+1) #[.int .i64 0,.int .i64 0,.int .i64 0,.int .i64 0,.int .u64 0] 196<|Bc ga #[a] 2<|Bc gb #[b] 2<|Bz) ?_
 clear b1 b2 b3 b4 hW
 rintro hW z5 ⟨⟨b1,yb1,k1,f1⟩,⟨b2,yb2,k2,f2⟩,⟨b3,yb3,k3,f3⟩,⟨b4,yb4,k4,f4⟩,-⟩
 clear hb3
 go_upto_region 4 with(fail)
 clear k1 f1 k2 f2 k3 f3 k4 f4
 refine wp_cutB w (Bc w.heap.size #[.int .i64 4,.slice p len cap,A,R,n,d,.slice q m vc,E] 179<|Bc (w.heap.size+1) #[.int .i64 0,.int .i64 0,.int .i64 0,.int .i64 0,.int .u64 0] 196<|Bc ga #[a] 2<|Bc gb #[b] 2<|Bz) ?_
 clear b1 b2 b3 b4 hW
 rintro W6 hW z7 hL
 obtain⟨⟨b1,yb1,k1,f1⟩,⟨b2,yb2,k2,f2⟩,⟨b3,yb3,k3,f3⟩,⟨b4,yb4,k4,f4⟩,-⟩:=id hL
 clear k1 f1 k2 f2 k3 f3 k4 f4
 refine wp_regD 10 31 hW hL ?_
 refine cA (fun W' hC=>kinds_w W') ?_
 iterate 3 refine dA ?_
 apply nd_det (c:= .agg #[.func (.func 202) #[] #[],.func (.func 203) #[] #[]]) (hg:=rfl) (hal:=rfl)
 ·intro a W' hC hE
  simp[Oper.looksAt,Op.operands,Call.operands,envOf,Det,GDet] at hE
  simp[go_sem,Act.eval,hE]
  kernel_rfl
 iterate 4 refine dA ?_
 refine cA (fun W' hC=>H_c3.out W' (hW.trans (hC.1.of_priv hW.size))) ?_
 clear hW hL b1 b2 b3 b4
 rintro W8 hW z9 hL
 simp only[ndR]
 intros
 simp only[ndS]
 obtain⟨⟨b1,yb1,k1,f1⟩,⟨b2,yb2,k2,f2⟩,⟨b3,yb3,k3,f3⟩,⟨b4,yb4,k4,f4⟩,-⟩:=hL
 go_wp2
 refine bodyPost_ret (by simp[results,Tryz.results188,go_sem,k1,f1,k2,f2,k3,f3,k4,f4,yb1,yb2,yb3,yb4]) rfl ⟨rfl,by exact belowAny⟩
end Go.Proofs.YtidfcoooccblaaaGreat
namespace Go.Proofs.YtidfcoooccblaaaGreat
open Go.RowKit
theorem of_no (K A R n d E:Int) (p q:Option Addr) (len cap m vc:Nat) (w:World) (ga gb:Nat)
  (c1:∀W,Below w.heap.size w W->Cb 150 #[.agg #[.int .i64 K,.slice p len cap,.int .i64 A,.int .i64 R,.int .i64 n,.int .i64 d,.slice q m vc,.int .i64 E]] W (.bool false)):
  Cb 187 #[.agg #[.int .i64 K,.slice p len cap,.int .i64 A,.int .i64 R,.int .i64 n,.int .i64 d,.slice q m vc,.int .i64 E],.func (.func 188) #[] #[.pointer (some ⟨ga,0,none⟩),.pointer (some ⟨gb,0,none⟩)]] w (.tuple #[.agg #[.int .i64 0,.int .i64 0,.int .i64 0,.int .i64 0,.int .u64 0],.int .i64 210]):=by
 have H_c1:=Hd c1
 clear c1
 go_enter Tryz.func187,Tryz.ntmps187
 go_upto_region 1 with(fail)
 refine wp_cutB w (Bc w.heap.size #[.int .i64 K,.slice p len cap,.int .i64 A,.int .i64 R,.int .i64 n,.int .i64 d,.slice q m vc,.int .i64 E] 98<|Bc (w.heap.size+1) #[.int .i64 0,.int .i64 0,.int .i64 0,.int .i64 0,.int .u64 0] 196<|Bz) ?_
 rintro W1 hW z2 ⟨⟨b1,yb1,k1,f1⟩,⟨b2,yb2,k2,f2⟩,-⟩
 go_wp2_with fail
 refine(H_c1.out _ (belowAny)).mono ?_
 rintro e w3 ⟨rfl,hb3⟩
 have z4:=hb3.size
 try simp at z4
 clear k1 f1 k2 f2
 refine haveB w w3 (Bc w.heap.size #[.int .i64 K,.slice p len cap,.int .i64 A,.int .i64 R,.int .i64 n,.int .i64 d,.slice q m vc,.int .i64 E] 98<|Bc (w.heap.size+1) #[.int .i64 0,.int .i64 0,.int .i64 0,.int .i64 0,.int .u64 0] 196<|Bc W1.heap.size #[.int .i64 0,.int .i64 0,.int .i64 0,.int .i64 0,.int .u64 0] 196<|Bz) ?_
 clear b1 b2 hW
 rintro hW z5 ⟨⟨b1,yb1,k1,f1⟩,⟨b2,yb2,k2,f2⟩,⟨b3,yb3,k3,f3⟩,-⟩
 clear hb3
 go_wp2
 refine bodyPost_ret (by simp[results,Tryz.results187,go_sem,k1,f1,k2,f2,k3,f3,yb1,yb2,yb3]) rfl ⟨rfl,by exact belowAny⟩
theorem of_yes (K A R n d E:Int) (p q:Option Addr) (len cap m vc:Nat) (w:World) (ga gb:Nat) (c0 c1' c2' c3' c4' er:Int)
  (c1:∀W,Below w.heap.size w W->Cb 150 #[.agg #[.int .i64 K,.slice p len cap,.int .i64 A,.int .i64 R,.int .i64 n,.int .i64 d,.slice q m vc,.int .i64 E]] W (.bool true))
  (c3:∀W,Below w.heap.size w W->Cb 188 #[.agg #[.int .i64 K,.slice p len cap,.int .i64 A,.int .i64 R,.int .i64 n,.int .i64 d,.slice q m vc,.int .i64 E],.pointer (some ⟨ga,0,none⟩),.pointer (some ⟨gb,0,none⟩)] W (.tuple #[.agg #[.int .i64 c0,.int .i64 c1',.int .i64 c2',.int .i64 c3',.int .u64 c4'],.int .i64 er])):
  Cb 187 #[.agg #[.int .i64 K,.slice p len cap,.int .i64 A,.int .i64 R,.int .i64 n,.int .i64 d,.slice q m vc,.int .i64 E],.func (.func 188) #[] #[.pointer (some ⟨ga,0,none⟩),.pointer (some ⟨gb,0,none⟩)]] w (.tuple #[.agg #[.int .i64 c0,.int .i64 c1',.int .i64 c2',.int .i64 c3',.int .u64 c4'],.int .i64 er]):=by
 have H_c1:=Hd c1
 clear c1
 have H_c3:=Hd c3
 clear c3
 go_enter Tryz.func187,Tryz.ntmps187
 go_upto_region 1 with(fail)
 refine wp_cutB w (Bc w.heap.size #[.int .i64 K,.slice p len cap,.int .i64 A,.int .i64 R,.int .i64 n,.int .i64 d,.slice q m vc,.int .i64 E] 98<|Bc (w.heap.size+1) #[.int .i64 0,.int .i64 0,.int .i64 0,.int .i64 0,.int .u64 0] 196<|Bz) ?_
 rintro W1 hW z2 ⟨⟨b1,yb1,k1,f1⟩,⟨b2,yb2,k2,f2⟩,-⟩
 go_wp2_with fail
 refine(H_c1.out _ (belowAny)).mono ?_
 rintro e w3 ⟨rfl,hb3⟩
 have z4:=hb3.size
 try simp at z4
 clear k1 f1 k2 f2
 refine haveB w w3 (Bc w.heap.size #[.int .i64 K,.slice p len cap,.int .i64 A,.int .i64 R,.int .i64 n,.int .i64 d,.slice q m vc,.int .i64 E] 98<|Bc (w.heap.size+1) #[.int .i64 0,.int .i64 0,.int .i64 0,.int .i64 0,.int .u64 0] 196<|Bc W1.heap.size #[.int .i64 0,.int .i64 0,.int .i64 0,.int .i64 0,.int .u64 0] 196<|Bz) ?_
 clear b1 b2 hW
 rintro hW z5 ⟨⟨b1,yb1,k1,f1⟩,⟨b2,yb2,k2,f2⟩,⟨b3,yb3,k3,f3⟩,-⟩
 clear hb3
 go_wp2_with fail
 refine(H_c3.out _ (belowAny)).mono ?_
 rintro e w6 ⟨rfl,hb6⟩
 have z7:=hb6.size
 try simp at z7
 clear k1 f1 k2 f2 k3 f3
 refine haveB w w6 (Bc w.heap.size #[.int .i64 K,.slice p len cap,.int .i64 A,.int .i64 R,.int .i64 n,.int .i64 d,.slice q m vc,.int .i64 E] 98<|Bc (w.heap.size+1) #[.int .i64 0,.int .i64 0,.int .i64 0,.int .i64 0,.int .u64 0] 196<|Bc W1.heap.size #[.int .i64 0,.int .i64 0,.int .i64 0,.int .i64 0,.int .u64 0] 196<|Bz) ?_
 clear b1 b2 b3 hW
 rintro hW z8 ⟨⟨b1,yb1,k1,f1⟩,⟨b2,yb2,k2,f2⟩,⟨b3,yb3,k3,f3⟩,-⟩
 clear hb6
 go_wp2
 refine bodyPost_ret (by simp[results,Tryz.results187,go_sem,k1,f1,k2,f2,k3,f3,yb1,yb2,yb3]) rfl ⟨rfl,by exact belowAny⟩
theorem part_w (K A R n d E:Int) (p q:Option Addr) (len cap m vc:Nat) (w:World) (a b:Int) (c0 c1' c2' c3' c4' er:Int)
  (c1:∀W ga gb,Below w.heap.size w W->Blk W ga #[.int .i64 a] 2->Blk W gb #[.int .i64 b] 2->Cb 187 #[.agg #[.int .i64 K,.slice p len cap,.int .i64 A,.int .i64 R,.int .i64 n,.int .i64 d,.slice q m vc,.int .i64 E],.func (.func 188) #[] #[.pointer (some ⟨ga,0,none⟩),.pointer (some ⟨gb,0,none⟩)]] W (.tuple #[.agg #[.int .i64 c0,.int .i64 c1',.int .i64 c2',.int .i64 c3',.int .u64 c4'],.int .i64 er])):
  Cb 160 #[.agg #[.int .i64 K,.slice p len cap,.int .i64 A,.int .i64 R,.int .i64 n,.int .i64 d,.slice q m vc,.int .i64 E],.int .i64 a,.int .i64 b] w (.tuple #[.agg #[.int .i64 c0,.int .i64 c1',.int .i64 c2',.int .i64 c3',.int .u64 c4'],.int .i64 er]):=by
 have hmf:∀(fn:Fn) (first cap:Array Value) (w:World),(Instr.makeFunc fn first cap).run Tryz.prog w= .ok (.func fn first cap) w:=fun _ _ _ _=>rfl
 have H_c1:=Hd c1
 clear c1
 go_enter Tryz.func160,Tryz.ntmps160
 go_upto_region 1 with(fail)
 refine wp_cutB w (Bc w.heap.size #[.int .i64 K,.slice p len cap,.int .i64 A,.int .i64 R,.int .i64 n,.int .i64 d,.slice q m vc,.int .i64 E] 98<|Bc (w.heap.size+1) #[.int .i64 a] 2<|Bc (w.heap.size+1+1) #[.int .i64 b] 2<|Bc (w.heap.size+1+1+1) #[.int .i64 0,.int .i64 0,.int .i64 0,.int .i64 0,.int .u64 0] 196<|Bz) ?_
 rintro W1 hW z2 ⟨⟨b1,yb1,k1,f1⟩,⟨b2,yb2,k2,f2⟩,⟨b3,yb3,k3,f3⟩,⟨b4,yb4,k4,f4⟩,-⟩
 go_wp2_with fail
 refine(H_c1.out _ _ _ (belowAny) (blkAny) (blkAny)).mono ?_
 rintro e w3 ⟨rfl,hb3⟩
 have z4:=hb3.size
 try simp at z4
 clear k1 f1 k2 f2 k3 f3 k4 f4
 refine haveB w w3 (Bc w.heap.size #[.int .i64 K,.slice p len cap,.int .i64 A,.int .i64 R,.int .i64 n,.int .i64 d,.slice q m vc,.int .i64 E] 98<|Bc (w.heap.size+1) #[.int .i64 a] 2<|Bc (w.heap.size+1+1) #[.int .i64 b] 2<|Bc (w.heap.size+1+1+1) #[.int .i64 0,.int .i64 0,.int .i64 0,.int .i64 0,.int .u64 0] 196<|Bz) ?_
 clear b1 b2 b3 b4 hW
 rintro hW z5 ⟨⟨b1,yb1,k1,f1⟩,⟨b2,yb2,k2,f2⟩,⟨b3,yb3,k3,f3⟩,⟨b4,yb4,k4,f4⟩,-⟩
 clear hb3
 go_wp2
 refine bodyPost_ret (by simp[results,Tryz.results160,go_sem,k1,f1,k2,f2,k3,f3,k4,f4,yb1,yb2,yb3,yb4]) rfl ⟨rfl,by exact belowAny⟩
def partOut (s:SegT) (a b:Int):Array Value×Int:=
 if segB s then
  if clipI s.runs a<clipJ s.runs a b then (partA (slice (vals s) (clipI s.runs a).toNat (clipJ s.runs a b).toNat),0)
  else (#[.int .i64 0,.int .i64 0,.int .i64 0,.int .i64 0,.int .u64 0],9)
 else (#[.int .i64 0,.int .i64 0,.int .i64 0,.int .i64 0,.int .u64 0],210)
theorem clip_bd {l:List RunT} (hl:RunsOk l) (a b:Int):0<=clipI l a/\clipJ l a b<=cnt l/\clipI l a<=cnt l:=by
 obtain⟨i0,i1,_⟩:=below_is l a hl.each hl.chain
 obtain⟨j0,j1,_⟩:=below_is l (b+1) hl.each hl.chain
 unfold clipI clipJ
 refine⟨i0,?_,i1⟩
 split
 ·omega
 ·split<;>omega
theorem segB_runs {s:SegT} (h:segB s=true):RunsOk s.runs:=by
 unfold segB at h
 rw[Bool.and_eq_true] at h
 exact(risesB_iff _).1 h.1
theorem segB_kind {s:SegT} (h:segB s=true):kindB s=true:=by
 unfold segB at h
 simp only[Bool.and_eq_true] at h
 exact h.2.2
theorem lineSeg_of {s:SegT} (hl:RunsOk s.runs) (h:lineIsB s=true):LineSeg s:=by
 unfold lineIsB at h
 simp only[Bool.and_eq_true] at h
 exact⟨hl,isLine_ok.1 h.1.1,h.1.2⟩
theorem segB_cases {s:SegT} (h:segB s=true):(s.K=1∨s.K=2∨s.K=3)/\LineSeg s∨s.K=4/\(s.raw.length:Int)=cnt s.runs/\s.raw.all isBack=true:=by
 have hl:=segB_runs h
 have hk:=segB_kind h
 unfold kindB at hk
 split at hk
 ·simp only[Bool.and_eq_true] at hk
  exact .inl ⟨by omega,lineSeg_of hl hk.2⟩
 ·split at hk
  ·simp only[Bool.and_eq_true] at hk
   exact .inl ⟨by omega,lineSeg_of hl hk.2.2⟩
  ·split at hk
   ·simp only[Bool.and_eq_true] at hk
    exact .inl ⟨by omega,lineSeg_of hl hk.2⟩
   ·split at hk
    ·simp only[Bool.and_eq_true,beq_iff_eq] at hk
     exact .inr ⟨by omega,hk.1.2,hk.2⟩
    ·cases hk
theorem c_part1 (s:SegT) (p q:Option Addr) (cap vc:Nat) (ga gb:Nat) (a b:Int) (w:World) (h:SegIn w s p q) (hvc:s.raw.length<=vc) (hs:segB s=true) (hb: -9223372036854775808<=b) (hga:Blk w ga #[.int .i64 a] 2) (hgb:Blk w gb #[.int .i64 b] 2):
  Cb 188 #[.agg (segA s p q cap vc),.pointer (some ⟨ga,0,none⟩),.pointer (some ⟨gb,0,none⟩)] w (.tuple #[.agg (partOut s a b).1,.int .i64 (partOut s a b).2]):=by
 have hl:=segB_runs hs
 have hclip:=fun W (hW:Below w.heap.size w W)=>clip_w p cap s.runs a b W hl (h.runs.below hW) hb
 obtain⟨b0,b1,b2⟩:=clip_bd hl a b
 have hcnt:=cnt_pos hl
 unfold partOut
 rw[if_pos hs]
 by_cases hij:clipI s.runs a<clipJ s.runs a b
 ·rw[if_pos hij]
  rcases segB_cases hs with⟨hk,hline⟩|⟨hk,hn,hback⟩
  ·have key:=fun W (hW:Below w.heap.size w W)=>c_linePart s p q cap vc _ _ W (h.below hW) hline (by omega) b0 hij b1
   unfold segA at key⊢
   rcases hk with e|e|e
   ·rw[e] at key⊢
    exact part1_1 0 _ _ _ _ _ p q _ cap _ vc w ga gb a b _ _ _ _ _ _ _ hga hgb hij hclip key
   ·rw[e] at key⊢
    exact part1_2 0 _ _ _ _ _ p q _ cap _ vc w ga gb a b _ _ _ _ _ _ _ hga hgb hij hclip key
   ·rw[e] at key⊢
    exact part1_3 0 _ _ _ _ _ p q _ cap _ vc w ga gb a b _ _ _ _ _ _ _ hga hgb hij hclip key
  ·have key:=fun W (hW:Below w.heap.size w W)=>c_rawPart s p q cap vc _ _ W (h.below hW) hvc hback (by omega) hk b0 hij (by omega)
   unfold segA at key⊢
   rw[hk] at key⊢
   exact part1_4 0 _ _ _ _ _ p q _ cap _ vc w ga gb a b _ _ _ _ _ _ _ hga hgb hij hclip key
 ·rw[if_neg hij]
  exact part1_none _ _ _ _ _ _ p q _ cap _ vc w ga gb a b _ _ 0 0 0 0 0 hga hgb hij hclip
theorem c_Part (s:SegT) (p q:Option Addr) (cap vc:Nat) (a b:Int) (w:World) (h:SegIn w s p q) (hvc:s.raw.length<=vc) (hb: -9223372036854775808<=b):
  Cb 160 #[.agg (segA s p q cap vc),.int .i64 a,.int .i64 b] w (.tuple #[.agg (partOut s a b).1,.int .i64 (partOut s a b).2]):=by
 obtain⟨c0,c1,c2,c3,c4,hp⟩:∃c0 c1 c2 c3 c4:Int,(partOut s a b).1= #[.int .i64 c0,.int .i64 c1,.int .i64 c2,.int .i64 c3,.int .u64 c4]:=by
  unfold partOut partA
  split
  ·split
   ·exact⟨_,_,_,_,_,rfl⟩
   ·exact⟨_,_,_,_,_,rfl⟩
  ·exact⟨_,_,_,_,_,rfl⟩
 rw[hp]
 refine part_w _ _ _ _ _ _ p q _ cap _ vc w a b c0 c1 c2 c3 c4 _ fun W ga gb hW hga hgb=> ?_
 cases hs:segB s with
 |false=>
  have e1:(partOut s a b).2=210:=by unfold partOut;rw[hs];rfl
  have e2:(partOut s a b).1= #[.int .i64 0,.int .i64 0,.int .i64 0,.int .i64 0,.int .u64 0]:=by unfold partOut;rw[hs];rfl
  rw[e1,<-hp,e2]
  have hi:=fun W' (hW':Below W.heap.size W W')=>c_segIs s p q cap vc W' ((h.below hW).below hW')
  rw[hs] at hi
  exact of_no _ _ _ _ _ _ p q _ cap _ vc W ga gb hi
 |true=>
  have hi:=fun W' (hW':Below W.heap.size W W')=>c_segIs s p q cap vc W' ((h.below hW).below hW')
  rw[hs] at hi
  have hc:=fun W' (hW':Below W.heap.size W W')=>c_part1 s p q cap vc ga gb a b W' ((h.below hW).below hW') hvc hs hb (hga.below hW') (hgb.below hW')
  rw[hp] at hc
  exact of_yes _ _ _ _ _ _ p q _ cap _ vc W ga gb _ _ _ _ _ _ hi hc
def valI (s:SegT) (i:Int):Int:=((vals s)[i.toNat]?).getD 0
theorem length_vals {s:SegT} (h:segB s=true):((vals s).length:Int)=cnt s.runs:=by
 have hl:=segB_runs h
 unfold vals
 rcases segB_cases h with⟨hk,_⟩|⟨hk,hn,_⟩
 ·rw[if_neg (by omega),List.length_map,length_times hl]
 ·rw[if_pos hk,hn]
def segAtV (s:SegT) (t:Int):Int:=if segB s then ((findL s.runs t).map (valI s)).getD 0 else 0
def segAtE (s:SegT) (t:Int):Int:=if segB s then (if (findL s.runs t).isSome then 0 else 4) else 210
def CloneR (w:World) (p:Option Addr) (l:List RunT) (e:Ending) (w':World):Prop:=∃p' cap',e= .returned (.slice p' l.length cap')/\Below w.heap.size w w'/\RunsIn w' p' l/\l.length<=cap'/\∀a,p'=some a->w.heap.size<=a.block
def CloneI (w:World) (p:Option Addr) (l:List Int) (e:Ending) (w':World):Prop:=∃p' cap',e= .returned (.slice p' l.length cap')/\Below w.heap.size w w'/\IntsIn w' p' l/\l.length<=cap'/\∀a,p'=some a->w.heap.size<=a.block
theorem clone_below {w w':World} {o:Obj} {n c:Nat} (h:(w.alloc o).grownBy w' (Value.slice (some ⟨w.heap.size,0,none⟩) n c).ownBlock):Below w.heap.size w w':=
 ⟨h.os,h.tape,h.output,by have:=h.size;simp at this;omega,fun k hk=>by
  rw[h.block k (by simp;omega) (by simp[Value.ownBlock];omega)]
  exact Below.heap_alloc w o k hk⟩
theorem ints_flat {w:World} {a:Addr} {l:List Int} (h:IntsIn w (some a) l) (j:Nat) (u:Value) (hu:(l.map (Value.int .i64))[j]? =some u):w.cell? (a.add j)=some u:=by
 simp only[List.getElem?_map,Option.map_eq_some_iff] at hu
 obtain⟨x,hx,rfl⟩:=hu
 obtain⟨b,o,e,hc⟩:=h.at' j x hx
 simp at e
 subst e
 have hadd:(⟨b,o,none⟩:Addr).add j=⟨b,o+j,none⟩:=by unfold Addr.add;split<;>simp_all
 rw[hadd];exact hc
theorem row_take {cur:Array Value} {xs:List Value} {k:Nat} (h:cur.toList.take k=xs) {j:Nat} {u:Value} (hu:xs[j]? =some u):cur[j]? =some u:=by
 rw[<-h,List.getElem?_take] at hu
 split at hu
 ·simpa using hu
 ·cases hu
theorem cloneRun_in {w:World} {g k:Nat} {t:TypeId} {cur:Array Value} {l:List RunT} (hb:w.heap[g]? =some (.cells cur t (0,0))) (ht:cur.toList.take k=flatCells l):RunsIn w (some ⟨g,0,none⟩) l:=⟨fun i r hr=>by
 obtain⟨a,b,c⟩:=flat_at l i r hr
 have k:∀z,w.cell? ⟨g,z,none⟩=cur[z]? :=fun z=>cell_of_row w g z cur t (0,0) hb
 refine⟨g,0,rfl,?_,?_,?_⟩
 ·rw[k,Nat.zero_add];exact row_take ht a
 ·rw[k,Nat.zero_add];exact row_take ht b
 ·rw[k,Nat.zero_add];exact row_take ht c⟩
theorem cloneInt_in {w:World} {g k:Nat} {t:TypeId} {cur:Array Value} {l:List Int} (hb:w.heap[g]? =some (.cells cur t (0,0))) (ht:cur.toList.take k=l.map (Value.int .i64)):IntsIn w (some ⟨g,0,none⟩) l:=⟨fun i x hx=>by
 refine⟨g,0,rfl,?_⟩
 rw[cell_of_row w g _ cur t (0,0) hb,Nat.zero_add]
 exact row_take ht (by simp[hx])⟩
theorem cloneRun_nil (w:World):Calls Tryz.prog 75 #[.slice none 0 0] w (CloneR w none []):=by
 go_enter Tryz.func75,Tryz.ntmps75
 have hnil:∀W,(binOp .eql 93 (.slice none 0 0) (.slice none 0 0)).run Tryz.prog W= .ok (.bool true) W:=fun W=>by kernel_rfl
 go_wp2
 go_ret
 exact⟨none,0,rfl,belowAny,⟨fun i r hr=>by simp at hr⟩,by simp,fun a h=>by cases h⟩
theorem cloneRun_some (a:Addr) (cap:Nat) (l:List RunT) (w:World) (hl:l.length<=300) (h:RunsIn w (some a) l):Calls Tryz.prog 75 #[.slice (some a) l.length cap] w (CloneR w (some a) l):=by
 have hnil:∀W,(binOp .eql 93 (.slice (some a) l.length cap) (.slice none 0 0)).run Tryz.prog W= .ok (.bool false) W:=fun W=>Lib.run_eql_slice_nil W 93 144 _ _ _ _ _ (by kernel_rfl)
 go_enter Tryz.func75,Tryz.ntmps75
 go_upto_region 3 with(fail)
 clear hnil
 have hmk:∀W,(Instr.buildSlice 93 0 #[]).run Tryz.prog W= .ok (.slice (some ⟨W.heap.size,0,none⟩) 0 0) (W.alloc (.cells #[] 144)):=fun W=>by kernel_rfl
 obtain⟨i,hi,hz0,hz1,hz2⟩:=info_parts Tryz.infoRun
 have hW:Below w.heap.size w (w.alloc (.cells #[] 144)):=belowAny
 have hown0:=World.ownsRow_made (e:=144) (size:=3) (base:=w.heap.size) w #[] 0 (Nat.le_refl _) (by simp[maxLen]) (by simp)
 go_wp2_with (at_builtin;refine wpList_append_own _ rfl (.tmp 5) (.tmp 6) 93 rfl w.heap.size 144 i _ 3 24 (by kernel_rfl) hi hz0 hz1 hz2 rfl (by omega) _ 0 [] rfl hown0 a l.length cap (flatCells l) rfl (by rw[length_flatCells]) ((h.below hW).flat) (fun v hv=>by obtain⟨x,rfl⟩:=flat_mem l v hv;rfl) (by simp[maxLen];omega) (by omega) (by simp) ?_)
 intro v' w' hown hgr _
 have hB:=Hd (clone_below hgr)
 replace hown:=Hd hown
 clear hgr
 go_wp2
 go_ret
 obtain⟨_,h2|⟨g,cap',cur,rfl,hg,hb,hn,_,hc,ht⟩⟩:=hown.out
 ·obtain⟨rfl,h0⟩:=h2
  have h0':l.length=0:=by omega
  exact⟨none,0,by rw[h0'];rfl,hB.out,⟨fun i r hr=>by rw[List.getElem?_eq_none_iff.2 (by omega)] at hr;cases hr⟩,by omega,fun a h=>by cases h⟩
 ·exact⟨some ⟨g,0,none⟩,cap',by simp,hB.out,cloneRun_in hb (by simpa using ht),by omega,fun a h=>by cases h;exact hg⟩
theorem cloneInt_nil (w:World):Calls Tryz.prog 76 #[.slice none 0 0] w (CloneI w none []):=by
 go_enter Tryz.func76,Tryz.ntmps76
 have hnil:∀W,(binOp .eql 96 (.slice none 0 0) (.slice none 0 0)).run Tryz.prog W= .ok (.bool true) W:=fun W=>by kernel_rfl
 go_wp2
 go_ret
 exact⟨none,0,rfl,belowAny,⟨fun i r hr=>by simp at hr⟩,by simp,fun a h=>by cases h⟩
theorem cloneInt_some (a:Addr) (cap:Nat) (l:List Int) (w:World) (hl:l.length<=300) (h:IntsIn w (some a) l):Calls Tryz.prog 76 #[.slice (some a) l.length cap] w (CloneI w (some a) l):=by
 have hnil:∀W,(binOp .eql 96 (.slice (some a) l.length cap) (.slice none 0 0)).run Tryz.prog W= .ok (.bool false) W:=fun W=>Lib.run_eql_slice_nil W 96 2 _ _ _ _ _ (by kernel_rfl)
 go_enter Tryz.func76,Tryz.ntmps76
 go_upto_region 3 with(fail)
 clear hnil
 have hmk:∀W,(Instr.buildSlice 96 0 #[]).run Tryz.prog W= .ok (.slice (some ⟨W.heap.size,0,none⟩) 0 0) (W.alloc (.cells #[] 2)):=fun W=>by kernel_rfl
 obtain⟨i,hi,hz0,hz1,hz2⟩:=info_parts Tryz.infoInt
 have hW:Below w.heap.size w (w.alloc (.cells #[] 2)):=belowAny
 have hown0:=World.ownsRow_made (e:=2) (size:=1) (base:=w.heap.size) w #[] 0 (Nat.le_refl _) (by simp[maxLen]) (by simp)
 go_wp2_with (at_builtin;refine wpList_append_own _ rfl (.tmp 5) (.tmp 6) 96 rfl w.heap.size 2 i _ 1 8 (by kernel_rfl) hi hz0 hz1 hz2 rfl (by omega) _ 0 [] rfl hown0 a l.length cap (l.map (Value.int .i64)) rfl (by simp) (fun j u hu=>ints_flat (h.below hW) j u hu) (fun v hv=>by simp only[List.mem_map] at hv;obtain⟨x,_,rfl⟩:=hv;rfl) (by simp[maxLen];omega) (by omega) (by simp) ?_)
 intro v' w' hown hgr _
 have hB:=Hd (clone_below hgr)
 replace hown:=Hd hown
 clear hgr
 go_wp2
 go_ret
 obtain⟨_,h2|⟨g,cap',cur,rfl,hg,hb,hn,_,hc,ht⟩⟩:=hown.out
 ·obtain⟨rfl,h0⟩:=h2
  have h0':l.length=0:=by omega
  exact⟨none,0,by rw[h0'];rfl,hB.out,⟨fun i r hr=>by rw[List.getElem?_eq_none_iff.2 (by omega)] at hr;cases hr⟩,by omega,fun a h=>by cases h⟩
 ·exact⟨some ⟨g,0,none⟩,cap',by simp,hB.out,cloneInt_in hb (by simpa using ht),by omega,fun a h=>by cases h;exact hg⟩
def kindL (A R n d:Int):Int:=if isLine A R n d=true then (if n=0 then 1 else if R=0 then 2 else 3) else 0
theorem RunsIn.set' {w:World} {p:Option Addr} {o i:Nat} {v:Value} {l:List RunT} (h:RunsIn w p l) (hne:∀a,p=some a->a.block≠o):RunsIn (w.setCell ⟨o,i,none⟩ v) p l:=⟨fun k r hr=>by
 obtain⟨b,y,e,h1,h2,h3⟩:=h.at' k r hr
 have hc:∀z,(w.setCell ⟨o,i,none⟩ v).cell? ⟨b,z,none⟩=w.cell? ⟨b,z,none⟩:=by
  intro z
  have:=heap_setCell_other w ⟨o,i,none⟩ b v (hne _ e)
  simp only[World.cell?,this]
 exact⟨b,y,e,(hc _).trans h1,(hc _).trans h2,(hc _).trans h3⟩⟩
theorem IntsIn.set' {w:World} {p:Option Addr} {o i:Nat} {v:Value} {l:List Int} (h:IntsIn w p l) (hne:∀a,p=some a->a.block≠o):IntsIn (w.setCell ⟨o,i,none⟩ v) p l:=⟨fun k r hr=>by
 obtain⟨b,y,e,h1⟩:=h.at' k r hr
 have hc:∀z,(w.setCell ⟨o,i,none⟩ v).cell? ⟨b,z,none⟩=w.cell? ⟨b,z,none⟩:=by
  intro z
  have:=heap_setCell_other w ⟨o,i,none⟩ b v (hne _ e)
  simp only[World.cell?,this]
 exact⟨b,y,e,(hc _).trans h1⟩⟩
theorem IntsIn.rex {w w':World} {p:Option Addr} {l:List Int} (h:IntsIn w p l) (hr:Rex [] w w'):IntsIn w' p l:=h.below hr.below
def CR (B:Nat) (l:List RunT):Spec:=fun v w=>∃p' cap',v= .slice p' l.length cap'/\RunsIn w p' l/\l.length<=cap'/\∀a,p'=some a->B<=a.block
def CI (B:Nat) (l:List Int):Spec:=fun v w=>∃p' cap',v= .slice p' l.length cap'/\IntsIn w p' l/\l.length<=cap'/\∀a,p'=some a->B<=a.block
theorem CR.closed (B:Nat) (l:List RunT):Closed [] (CR B l):=fun _ _ _ hr ⟨p',c',e,h,k⟩=>⟨p',c',e,h.rex hr rfl,k⟩
theorem CI.closed (B:Nat) (l:List Int):Closed [] (CI B l):=fun _ _ _ hr ⟨p',c',e,h,k⟩=>⟨p',c',e,h.rex hr,k⟩
theorem RunsIn.new {w w':World} {p:Option Addr} {l:List RunT} (h:RunsIn w p l) (o i:Nat) (v:Value) (hne:∀a,p=some a->a.block≠o):RunsIn (w.setCell ⟨o,i,none⟩ v) p l:=h.set' hne
section
variable {P:Program} {ops:Array Oper} {C:World->Prop} {X:List (Nat×Nat)} {a0:Act} {Fin:List (Option Tmp×Spec)->Prop} {i:Nat} {o:Oper} {rest:List Oper} {acc:List (Option Tmp×Spec)}
theorem nd_spec (Φ:Spec) (hcl:Closed (others X i) Φ) (hg:o.guard=none) (hal:isAlloc o=false)
  (h:∀(a:Act) (w:World),C w->(∀s∈o.looksAt ops,envOf a0 acc s (a.tmps.getD s undef) w)->∃v,(execOp a.eval o).run P w= .ok (.value v) w/\Φ v w)
  (hr:ndWalk P ops C X a0 Fin (i+1) rest ((o.dst,Φ)::acc)):ndWalk P ops C X a0 Fin i (o::rest) acc:=
 ⟨Φ,hcl,fun a w hC hE=>⟨fun _=>by
  obtain⟨v,h1,h2⟩:=h a w hC hE
  rw[h1];exact⟨Rex.refl _ _,h2,fun e=>by rw[hal] at e;cases e⟩,fun e=>by rw[wanted_none hg] at e;cases e⟩,hr⟩
end
def SV (K A R n d E:Int) (B:Nat) (l:List RunT):Spec:=fun v w=>∃p1 cap1 q1 vc1,v= .agg #[K,.slice p1 l.length cap1,A,R,n,d,.slice q1 0 vc1,E]/\RunsIn w p1 l/\l.length<=cap1/\∀a,p1=some a->B<=a.block
def TV (K A R n d E:Int) (B:Nat) (l:List RunT):Spec:=fun v w=>∃p1 cap1 q1 vc1,v= .tuple #[.agg #[K,.slice p1 l.length cap1,A,R,n,d,.slice q1 0 vc1,E],.int .i64 0]/\RunsIn w p1 l/\l.length<=cap1/\∀a,p1=some a->B<=a.block
theorem SV.closed (K A R n d E:Int) (B:Nat) (l:List RunT):Closed [] (SV K A R n d E B l):=fun _ _ _ hr ⟨p',c',q',v',e,h,k⟩=>⟨p',c',q',v',e,h.rex hr rfl,k⟩
theorem TV.closed (K A R n d E:Int) (B:Nat) (l:List RunT):Closed [] (TV K A R n d E B l):=fun _ _ _ hr ⟨p',c',q',v',e,h,k⟩=>⟨p',c',q',v',e,h.rex hr rfl,k⟩
def outOf (s:SegT) (i j:Int):Array Value×Int:=if i<j then (partA (slice (vals s) i.toNat j.toNat),0) else (#[.int .i64 0,.int .i64 0,.int .i64 0,.int .i64 0,.int .u64 0],9)
theorem slice_ne {l:List Int} {i j:Nat} (h:i<j) (hj:j<=l.length):slice l i j≠ []:=by
 intro e
 have:=length_slice (l:=l) (i:=i) hj
 rw[e] at this
 simp at this
 omega
theorem vals_back {s:SegT} (hs:segB s=true) {v:Int} (hv:v∈vals s): -2305844108725321728<=v/\v<=2305844108725321728:=by
 unfold vals at hv
 rcases segB_cases hs with⟨hk,hline⟩|⟨hk,_,hback⟩
 ·rw[if_neg (by omega)] at hv
  simp only[List.mem_map] at hv
  obtain⟨t,ht,rfl⟩:=hv
  have:=mem_times hline.runs ht
  exact isBack_iff.1 (hline.back this.1 this.2.1)
 ·rw[if_pos hk] at hv
  exact raw_back hback hv
end Go.Proofs.YtidfcoooccblaaaGreat
namespace Go.Proofs.YtidfcoooccblaaaGreat
open Go.RowKit Go.Shelf
attribute [local go_sem] Oper.semAt_some
theorem wpIn_scope {P:Program} {n:Nat} {c:Code} {Q:Exit->Act->World->Prop} {a:Act} {w:World} (h:c.wpIn Fence.wide n P (Exit.noGoto Q) a w):(Code.scope c).wpIn Fence.wide n P Q a w:=wpIn_wide.2 (wp_scope_straight (wpIn_wide.1 h))
theorem wpIn_lab {F:Fence} {P:Program} {n l:Nat} {c:Code} {Q:Exit->Act->World->Prop} {a:Act} {w:World} (h:c.wpIn F n P Q a w):((Code.label l).seq c).wpIn F n P Q a w:=wpIn_seq (wpIn_label h)
def KeepsT (t:TypeId) (A B:World):Prop:=∀(b:Nat) (cs:Array Value) (f:Nat×Nat),A.heap[b]? =some (.cells cs t f)->B.heap[b]? =some (.cells cs t f)
theorem KeepsT.refl (t:TypeId) (A:World):KeepsT t A A:=fun _ _ _ h=>h
theorem KeepsT.trans {t:TypeId} {A B C:World} (h:KeepsT t A B) (k:KeepsT t B C):KeepsT t A C:=fun b cs f hb=>k b cs f (h b cs f hb)
theorem times_step {l:List RunT} {k:Nat} {r:RunT} (hr:l[k]? =some r):timesL (l.take (k+1))=timesL (l.take k)++timesR r:=by
 rw[List.take_add_one,hr,timesL_append]
 simp[timesL]
theorem timesR_step {r:RunT} {j:Nat} (h:(j:Int)<r.c):(timesR r).take (j+1)=(timesR r).take j++ [r.f+r.s*(j:Int)]:=by
 rw[List.take_add_one,timesR_at r j h]
 rfl
theorem times_room {l:List RunT} {k j:Nat} {r:RunT} (hr:l[k]? =some r) (h:(j:Int)<r.c):(timesL (l.take k)++(timesR r).take j).length<(timesL l).length:=by
 have e:timesL l=timesL (l.take (k+1))++timesL (l.drop (k+1)):=by rw[<-timesL_append,List.take_append_drop]
 rw[e,times_step hr]
 have:=length_timesR r
 simp
 omega
theorem times_pre {l:List RunT} {k j:Nat} {r:RunT} (hr:l[k]? =some r):timesL (l.take k)++(timesR r).take j<+:timesL l:=by
 have e:timesL l=timesL (l.take (k+1))++timesL (l.drop (k+1)):=by rw[<-timesL_append,List.take_append_drop]
 rw[e,times_step hr]
 exact⟨(timesR r).drop j++timesL (l.drop (k+1)),by rw[List.append_assoc,<-List.append_assoc (List.take j _),List.take_append_drop,List.append_assoc]⟩
theorem all1_in (n:Nat) (hn:1<=n) (lr Bs n₀:Nat) (p:Option Addr) (cap:Nat) (l:List RunT) (hl:∀r,r∈l->RunOk r) (hlen:l.length<=256) (Kp:World->World->Prop) (hK:∀ {A B},Kp A B->Below n₀ A B/\KeepsT 144 A B)
  (J Jx:List Int->World->Prop) (B0:Nat) (hJ:AbidesFrom B0 J)
  (hY:∀pre x W,J pre W->pre.length<(timesL l).length->YieldAt Fence.wide (n-1) Tryz.prog lr #[.int .i64 x] W fun e W'=>(e= .returned (.bool true)/\J (pre++ [x]) W'/\Kp W W')∨(e= .returned (.bool false)/\Jx (pre++ [x]) W'))
  (W:World) (hBs:W.cell? ⟨Bs,0,none⟩=some (.slice p l.length cap)) (hR:RunsIn W p l) (hn₀:∀a,p=some a->a.block<n₀) (hn1:n₀<=W.heap.size) (h0:J [] W):
  CallsIn Fence.wide n Tryz.prog 191 #[.func (.yield lr) #[] #[],.pointer (some ⟨Bs,0,none⟩)] W fun e W'=>(∃v,e= .returned v)/\((∃ys,ys=timesL l/\J ys W')∨(∃pre,pre<+:timesL l/\Jx pre W')):=by
 refine callsIn_of_wp Tryz.func191 rfl trivial ?_ rfl
 simp only[Tryz.ntmps191,List.size_toArray,List.length_cons,List.length_nil,Nat.reduceAdd,Nat.reduceSub,Array.replicate_succ,Array.replicate_zero,List.push_toArray,List.append_toArray,List.nil_append,List.cons_append]
 refine wpIn_scope (wpIn_lab ?_)
 gi_wp2
 gi_loopw [8] (fun i wr=>∃k:Nat,k<=l.length/\i= .int .i64 k/\J (timesL (l.take k)) wr/\Below n₀ W wr/\W.heap.size<=wr.heap.size) (fun i _=>l.length-(intOf i).toNat)
 case atStart=>exact⟨0,Nat.zero_le _,rfl,h0,Below.refl _ _,Nat.le_refl _⟩
 case round=>
  obtain⟨k,hk,rfl,hJs,hnx,hsz⟩:=hrel
  obtain⟨wo,rfl⟩:∃wo:World,wo=wr:=⟨_,rfl⟩
  rcases Nat.lt_or_ge k l.length with hlt|hge
  ·obtain⟨r,hri⟩:∃r,l[k]? =some r:=⟨l[k]'(by omega),List.getElem?_eq_getElem (by omega)⟩
   have hr:=hl r (List.mem_of_getElem? hri)
   obtain⟨b,o,rfl,k0,k1,k2⟩:=hR.at' k r hri
   have hbl:b<n₀:=hn₀ _ rfl
   have q0:wo.cell? ⟨b,o+k*3,none⟩=some (.int .i64 r.f):=(hnx.cell (p:=⟨b,o+k*3,none⟩) hbl).trans k0
   have q1:wo.cell? ⟨b,o+k*3+1,none⟩=some (.int .i64 r.s):=(hnx.cell (p:=⟨b,o+k*3+1,none⟩) hbl).trans k1
   have q2:wo.cell? ⟨b,o+k*3+2,none⟩=some (.int .i64 r.c):=(hnx.cell (p:=⟨b,o+k*3+2,none⟩) hbl).trans k2
   clear k0 k1 k2
   have r1:=hr.f0;have r2:=hr.f1;have r3:=hr.s0;have r4:=hr.s1;have r5:=hr.c0;have r6:=hr.c1;have r7:=lastI_le hr;have r8:=hr.last
   gi_wp2
   gi_loopw [14] (fun j wr=>∃m:Nat,(m:Int)<=r.c/\j= .int .i64 m/\J (timesL (l.take k)++(timesR r).take m) wr/\Below n₀ W wr/\W.heap.size<=wr.heap.size/\Blk wr wo.heap.size #[.int .i64 r.f,.int .i64 r.s,.int .i64 r.c] 144) (fun j _=>r.c.toNat-(intOf j).toNat)
   case atStart=>exact⟨0,by omega,rfl,by simpa using hJ _ _ _ none hJs (World.grownBy_alloc wo _ none) (fun r e=>by cases e),hnx.alloc (by omega) _,by simp;omega,Blk.new' rfl⟩
   case round=>
    obtain⟨m,hm,rfl,hJm,hnm,hsm,hb⟩:=hrel
    have kb:=hb.cell
    have fb:=hb.frozen
    by_cases hmc:(m:Int)<r.c
    ·have m0:0<=r.s*(m:Int):=Int.mul_nonneg r3 (by omega)
     have m1:r.f+r.s*(m:Int)<=lastI r:=run_at_le hr (by omega)
     obtain⟨fn,tmps,assign,body,hy,hR'⟩:=hY _ (r.f+r.s*(m:Int)) wr hJm (times_room hri hmc)
     gi_wp2
     refine hR'.mono ?_
     rintro e W3 (⟨rfl,hJ3,hk3⟩|⟨rfl,hJx3⟩)
     ·obtain⟨g1,g2⟩:=hK hk3
      have g3:=g1.size
      gi_wp2
      go_roundw
      case rel=>exact⟨m+1,by omega,by simp,by rw[timesR_step hmc,<-List.append_assoc];exact hJ3,hnm.trans g1,by omega,g2 _ _ _ hb⟩
      case measure=>simp[intOf];omega
     ·gi_wp2
      simp only[Exit.noGoto]
      refine bodyPost_end (results_none rfl _ _ _) rfl ?_
      exact⟨⟨_,rfl⟩,.inr ⟨_,by rw[List.append_assoc,<-timesR_step hmc];exact times_pre hri,hJx3⟩⟩
    ·have e:(m:Int)=r.c:=by omega
     have et:(timesR r).take m=timesR r:=List.take_of_length_le (by rw[length_timesR];omega)
     rw[et,<-times_step hri] at hJm
     gi_wp2
     go_roundw
     case rel=>exact⟨k+1,by omega,by simp,hJm,hnm,hsm⟩
     case measure=>simp[intOf];omega
  ·obtain rfl:k=l.length:=by omega
   rw[List.take_length] at hJs
   gi_wp2
   simp only[Exit.noGoto]
   refine bodyPost_end (results_none rfl _ _ _) rfl ?_
   exact⟨⟨_,rfl⟩,.inl ⟨_,rfl,hJs⟩⟩
theorem keepsT_appended {W w1:World} {n₀ B:Nat} {t e T:TypeId} {size:Nat} {v v':Value} {k:Nat} {xs:List Value} {tmp:Obj} (hv:Boxed W B t v) (hrow:W.ownsRow n₀ e size v k xs) (hgrow:(W.alloc tmp).grownBy w1 v.ownBlock) (h1:T≠t) (h2:T≠e):KeepsT T W (w1.setCell ⟨B,0,none⟩ v'):=by
 intro b cs f hb
 have hlt:=lt_of_heap hb
 have e1:b≠B:=by
  rintro rfl
  rw[show W.heap[b]? =_ from hv] at hb
  injection hb with hb
  injection hb with _ h _
  exact h1 h.symm
 rw[Below.heap_setCell w1 ⟨B,0,none⟩ v' b e1]
 rw[hgrow.block b (by simp;omega) ?_,Below.heap_alloc W tmp b hlt]
 ·exact hb
 ·rcases hrow.2 with⟨rfl,_⟩|⟨g,cap,cur,rfl,_,hgb,_⟩
  ·simp[Value.ownBlock]
  ·intro e'
   obtain rfl:b=g:=by simpa [Value.ownBlock] using e'
   rw[hgb] at hb
   injection hb with hb
   injection hb with _ h _
   exact h2 h.symm
theorem appendSeqI (gf:Nat) (lb:Array Value) (xs:List Int) (hlen:xs.length<=1000000) (w w0:World) (hw0:Below w0.heap.size w0 w) (Kp:World->World->Prop) (enters:∀args w,(callFunc gf args).run Tryz.prog w= .ok (.enter gf args) w)
  (hKp:∀ {A B},Below w.heap.size A B->(∀T,T≠96->T≠2->KeepsT T A B)->Kp A B) (hKt:∀ {A B C},Kp A B->Kp B C->Kp A C) (hKb:∀(W:World) (l:Nat) (o o':Obj),w.heap.size<=l->W.heap[l]? =some o->o.isCells=false->o.isWalk=false->Kp W (W.putObj l o'))
  (hseq:SeqStopsK Fence.wide 2 Tryz.prog gf lb (fun x:Int=> #[Value.int .i64 x]) Kp (fun ys=>ys=xs) (fun pre=>pre<+:xs) xs.length w0):
  CallsIn Fence.wide 3 Tryz.prog 190 #[.slice none 0 0,.func (.func gf) #[] lb] w fun e W'=>∃v,e= .returned v/\W'.ownsRow w.heap.size 2 1 v xs.length (xs.map (Value.int .i64))/\Below w.heap.size w W':=by
 obtain⟨i0,hi,hz0,hz1,hz2⟩:=info_parts Tryz.infoInt
 refine callsIn_of_wp_marks Tryz.func190 rfl trivial ?_ rfl
 simp only[Tryz.ntmps190,List.size_toArray,List.length_cons,List.length_nil,Nat.reduceAdd,Nat.reduceSub,Array.replicate_succ,Array.replicate_zero,List.push_toArray,List.append_toArray,List.nil_append,List.cons_append]
 gi_wp2
 have bO:=Boxed.new w 96 (.slice none 0 0)
 have hB0:Below w.heap.size w (w.alloc (.cells #[.slice none 0 0] 96)):=(Below.refl _ w).alloc (Nat.le_refl _) _
 refine wpIn_rangeFunc_ownG rfl (by omega) (gf:=gf) (lb:=lb) rfl trivial enters hseq hKt (fun W l o o' hl=>hKb W l o o' (by simp at hl;omega)) (hw0.trans (hB0.mono hw0.size)) (fun _=>rfl)
  (fun pre W=>(∃v,Boxed W w.heap.size 96 v/\W.ownsRow w.heap.size 2 1 v pre.length (pre.map (Value.int .i64))/\True)/\Below w.heap.size w W)
  (fun _ _ _=>False)
  (OwnFrom.and (Own.from (holdsRow_own w.heap.size w.heap.size 96 2 1 (fun pre:List Int=>pre.length) (fun pre=>pre.map (Value.int .i64)) (fun _ _=>True)) _) (ownFrom_below (Nat.le_refl _) (by simp)))
  (fun _ _ _ _ _ hs _ _=>hs)
  ⟨⟨_,bO,World.ownsRow_nil _ _ _ _,trivial⟩,hB0⟩
  (fun x=> {tmps:= #[.slice none 0 0,.func (.func gf) #[] lb,.pointer (some ⟨w.heap.size,0,none⟩),undef,.slice none 0 0,x,.func (.func gf) #[] lb,x,undef,undef,undef,undef,undef],defers:= []}) ?assign ?body ?done ?stop
 case assign=>
  intro l x W K hK
  gi_wp2
  exact hK
 case body=>
  rintro l pre x W ⟨⟨v,hv,hrow,_⟩,hB⟩ hlt
  have hc:=hv.cell
  gi_wp2_with (gi_at_builtin;refine wpListIn_append_own _ rfl _ _ 96 rfl w.heap.size 2 i0 (.int .i64 0) 1 8 (by kernel_rfl) hi hz0 hz1 hz2 rfl (by decide) _ _ _ rfl (hrow.alloc _) ⟨W.heap.size,0,none⟩ 1 1 [x] rfl rfl (cell_one_new _ _ _) (by simp[Value.oneCell']) (by simp[maxLen];omega) (by omega) (by have:=hB.size;simp;omega) ?_;intro v' w1 hown' hgrow _;obtain⟨g',cap',rfl⟩:=ownsRow_succ hown';obtain⟨hv1,hv2,hr2,hk2,hb2⟩:=hv.appended (by decide) hrow hB.size (Nat.le_refl _) hown' hgrow;have hkt:=fun T h1 h2=>keepsT_appended (v':= .slice (some ⟨g',0,none⟩) (pre.length+1) cap') (T:=T) hv hrow hgrow h1 h2;have hc1:=hv1.cell;have hf1:=hv1.frozen)
  exact⟨hk2.from _,hKp hb2 hkt,⟨_,hv2,by simpa using hr2,trivial⟩,hB.trans hb2⟩
 case done=>
  rintro D ys W hD rfl ⟨⟨v,hv,hrow,_⟩,hB⟩ hK
  have hc:=hv.cell
  gi_wp2
  refine⟨by simp,.inl ⟨_,_,rfl,run_takeDeferred hK,?_⟩⟩
  exact⟨_,results_tmp rfl _ _ _,v,rfl,ownsRow_putObj hrow _ hK rfl,hB.trans (belowK_b (w:=w) (Nat.le_refl _) W D _ _ (by simp at hD;omega) hK rfl rfl)⟩
 case stop=>
  rintro D c pre W _ _ h _
  exact h.elim
end Go.Proofs.YtidfcoooccblaaaGreat
