/- Parts of the proof that follows. No condition. -/
import Derived.Laws.EntriesVeiled
import Derived.Laws.AppendOwn
import Derived.RangeFuncNested
import Derived.RangeFuncBound
import Derived.RangeFuncCalls
import Derived.RangeFuncLeaves
import Derived.RangeFuncBox
import Derived.Maps.AppendAt
import Derived.Shelf.Abstract
import Derived.Shelf.RegionOpen
import Derived.WalkKit
import Derived.OwnWalkIn
import Derived.TacticsInMore
import Derived.LoopNIn
import Derived.LoopIn
import Derived.Test.YtidfcoooccblaaaGreatBon5
set_option maxRecDepth 100000
set_option maxHeartbeats 8000000
set_option linter.unusedSimpArgs false
set_option linter.unusedVariables false
namespace Go.Proofs.YtidfcoooccblaaaGreat
open Go.RowKit
theorem Tryz.infoInt :(Tryz.prog.info? 2).map (fun i=>(i.zero,i.size,i.bytes))=some (some (.int .i64 0),1,8):=by kernel_rfl
theorem make_ints (c:Int) (n:Nat) (hc:c=(n:Int)) (hn:n<=1000000):∃C:Array Value,C.size=n/\∀W,(Instr.makeSlice 96 (c) (c)).run Tryz.prog W= .ok (.slice (some ⟨W.heap.size,0,none⟩) n n) (W.alloc (.cells C 2)):=by
 obtain⟨i,hi,hz0,hz1,hz2⟩:=info_parts Tryz.infoInt
 refine⟨madeCells #[.int .i64 0] n,?_,fun W=> ?_⟩
 rotate_left
 ·have:=run_make (P:=Tryz.prog) W 96 2 i _ rfl hi hz0 .i64 .i64 c c (by omega) (by omega) (by rw[hz2];omega) (by omega)
  rw[hc] at this⊢
  simpa [hz1,Value.cells] using this
 ·simp[size_madeCells]
theorem Au.of_blk {w:World} {g:Nat} {V:List Int} {t:TypeId} (h:Blk w g (V.map (Value.int .i64)).toArray t):Au w (some ⟨g,0,none⟩) V:=⟨fun i x hx=>by
 refine⟨g,0,rfl,?_⟩
 rw[h.cell]
 simp[hx]⟩
theorem Au.part {w:World} {vb vo i n:Nat} {raw:List Int} (h:Au w (some ⟨vb,vo,none⟩) raw) (k:Nat) (v:Value) (hv:(((raw.drop i).take n).map (Value.int .i64))[k]? =some v):w.cell? ((⟨vb,vo+i,none⟩:Addr).add k)=some v:=by
 have hadd:(⟨vb,vo+i,none⟩:Addr).add k=⟨vb,vo+i+k,none⟩:=by unfold Addr.add;split<;>simp_all
 rw[hadd]
 simp only[List.getElem?_map,Option.map_eq_some_iff] at hv
 obtain⟨x,hx,rfl⟩:=hv
 have hx':raw[i+k]? =some x:=by
  rw[List.getElem?_take] at hx
  split at hx
  ·rwa [List.getElem?_drop] at hx
  ·cases hx
 obtain⟨b,y,e,hc⟩:=h.at' _ x hx'
 cases e
 rw[Nat.add_assoc];exact hc
def rpRel (w:World) (i j:Nat) (lo hi:Int) (V:List Int) (SS:Nat->Int) (o:Nat) (a':Act) (W:World):Prop:=
 Below w.heap.size w W/\Blk W (w.heap.size+1) #[.int .i64 0,.int .i64 0,.int .i64 0,.int .i64 0,.int .u64 0] 196/\Blk W (w.heap.size+1+1) (V.map (Value.int .i64)).toArray 2/\∃k:Nat,(∃u:Nat->Value,a'= {tmps:= #[u 0,u 1,u 2,u 3,u 4,u 5,.pointer (some ⟨w.heap.size+1,0,none⟩),u 7,.pointer (some ⟨o,0,none⟩),u 9,u 10,u 11,u 12,u 13,u 14,u 15,u 16,u 17,u 18,u 19,u 20,u 21,u 22,u 23,u 24,u 25,u 26,u 27,u 28,u 29,u 30,.slice (some ⟨w.heap.size+1+1,0,none⟩) V.length V.length,.int .i64 (V.length:Int),.int .i64 (k:Int),u 34,u 35,u 36,u 37,u 38,u 39,u 40,u 41,u 42,u 43,u 44,u 45,u 46,u 47],defers:= []})/\k<=V.length/\Blk W o #[.int .i64 ((j:Int)-(i:Int)),lo,hi,.int .i64 (hiW (SS k)),.int .u64 (loW (SS k))] 196
theorem rawpart_w (K A R n d E:Int) (p:Option Addr) (vb vo len cap m vc:Nat) (w:World) (i j:Nat) (lo hi S:Int) (raw V:List Int) (SS:Nat->Int) (hm:raw.length=m) (hij:i<j/\j<=m/\m<=vc/\m<=300) (hV:V=(raw.drop i).take (j-i)) (hr:Au w (some ⟨vb,vo,none⟩) raw) (h0:SS 0=0) (hS:SS V.length=S)
  (c1:∀W,Below w.heap.size w W->Blk W (w.heap.size+1+1) (V.map (Value.int .i64)).toArray 2->Cb 221 #[.slice (some ⟨w.heap.size+1+1,0,none⟩) V.length V.length] W (lo))
  (c2:∀W,Below w.heap.size w W->Blk W (w.heap.size+1+1) (V.map (Value.int .i64)).toArray 2->Cb 222 #[.slice (some ⟨w.heap.size+1+1,0,none⟩) V.length V.length] W (hi))
  (c3:∀v,v∈V->∀W,Below w.heap.size w W->Cb 117 #[v] W (.agg #[.int .i64 (hiW (v)),.int .u64 (loW (v))]))
  (c4:∀(k:Nat) (v:Int),V[k]? =some v->∀W,Below w.heap.size w W->Cb 16 #[.agg #[.int .i64 (hiW (SS k)),.int .u64 (loW (SS k))],.agg #[.int .i64 (hiW (v)),.int .u64 (loW (v))]] W (.tuple #[.agg #[.int .i64 (hiW (SS (k+1))),.int .u64 (loW (SS (k+1)))],.int .i64 0])):
  Cb 203 #[.agg #[K,.slice p len cap,A,R,n,d,.slice (some ⟨vb,vo,none⟩) m vc,E],.int .i64 (i:Int),.int .i64 (j:Int)] w (.agg #[.int .i64 ((j:Int)-(i:Int)),lo,hi,.int .i64 (hiW (S)),.int .u64 (loW (S))]):=by
 have hl:V.length=j-i:=by rw[hV];simp;omega
 have hlc:(j:Int)-(i:Int)=(V.length:Int):=by omega
 obtain⟨C,hC,hmk⟩:=make_ints _ V.length hlc (by omega)
 have hW0:hiW (SS 0)=0:=by rw[h0];rfl
 have hW1:loW (SS 0)=0:=by rw[h0];rfl
 have hcs:(V.map (Value.int .i64)).length=C.size:=by rw[hC];simp
 have hpart:=fun(W:World) (hW:Below w.heap.size w W) (k:Nat) (v:Value) (hv:(V.map (Value.int .i64))[k]? =some v)=>Au.part (hr.below hW) k v (hV▸hv)
 replace hpart:=Hd hpart
 replace hV:=Hd hV
 replace hW0:=Hd hW0
 replace hW1:=Hd hW1
 replace h0:=Hd h0
 replace hS:=Hd hS
 replace c3:=Hd c3
 replace c4:=Hd c4
 replace hlc:=Hd hlc
 replace hl:=Hd hl
 replace hm:=Hd hm
 replace hC:=Hd hC
 replace hcs:=Hd hcs
 have H_c1:=Hd c1
 clear c1
 have H_c2:=Hd c2
 clear c2
 go_enter Tryz.func203,Tryz.ntmps203
 go_upto_region 2 with(fail)
 refine Ad w (Bc w.heap.size #[K,.slice p len cap,A,R,n,d,.slice (some ⟨vb,vo,none⟩) m vc,E] 179<|Bc (w.heap.size+1) #[.int .i64 0,.int .i64 0,.int .i64 0,.int .i64 0,.int .u64 0] 196<|Bc (w.heap.size+1+1) C 2<|Bz) ?_
 rintro W1 hW z2 ⟨⟨b1,yb1,k1,f1⟩,⟨b2,yb2,k2,f2⟩,⟨b3,yb3,k3,f3⟩,-⟩
 have hcp:=R5 Tryz.prog W1 96 96 3 2 1 (w.heap.size+1+1) V.length V.length ⟨vb,vo+i,none⟩ (j-i) (vc-i) C 2 (V.map (Value.int .i64)) (by kernel_rfl) (by kernel_rfl) b3 (by rw[List.length_map,<-hl.out,Nat.mul_one];exact(Nat.min_self _).symm) (hpart.out _ hW) hcs.out (fun v hv=>by simp only[List.mem_map] at hv;obtain⟨x,_,rfl⟩:=hv;rfl)
 go_upto_region 3 with(fail)
 clear hcp k1 f1 k2 f2 k3 f3 hmk
 refine A9 (fun W'=>Below w.heap.size w W'/\Blk W' w.heap.size #[K,.slice p len cap,A,R,n,d,.slice (some ⟨vb,vo,none⟩) m vc,E] 179/\Blk W' (w.heap.size+1) #[.int .i64 0,.int .i64 0,.int .i64 0,.int .i64 0,.int .u64 0] 196/\Blk W' (w.heap.size+1+1) (V.map (Value.int .i64)).toArray 2) ⟨below_setRow hW (by omega) _,?_,?_,setRow_heap _ _ _ _ _ (0,0) b3⟩ ?_
 ·exact(setRow_other _ _ _ _ (by omega)).trans b1
 ·exact(setRow_other _ _ _ _ (by omega)).trans b2
 clear hW b1 b2 b3
 rintro W3 ⟨hW,b1,b2,b3⟩
 have hz0:=hW.size
 have hz1:=b1.lt
 have hz2:=b2.lt
 have hz3:=b3.lt
 have k1:=b1.cell
 have f1:=b1.frozen
 have k2:=b2.cell
 have f2:=b2.frozen
 have k3:=b3.cell
 have f3:=b3.frozen
 go_wp2_with fail
 refine(H_c1.out _ (Aa) (A3)).mono ?_
 rintro e w8 ⟨rfl,hb8⟩
 have z9:=hb8.size
 try simp at z9
 clear k1 f1 k2 f2 k3 f3
 refine Ae w w8 (Bc w.heap.size #[K,.slice p len cap,A,R,n,d,.slice (some ⟨vb,vo,none⟩) m vc,E] 179<|Bc (w.heap.size+1) #[.int .i64 0,.int .i64 0,.int .i64 0,.int .i64 0,.int .u64 0] 196<|Bc (w.heap.size+1+1) (V.map (Value.int .i64)).toArray 2<|Bz) ?_
 clear b1 b2 b3 hW
 rintro hW z10 ⟨⟨b1,yb1,k1,f1⟩,⟨b2,yb2,k2,f2⟩,⟨b3,yb3,k3,f3⟩,-⟩
 clear hb8
 go_wp2_with fail
 refine(H_c2.out _ (Aa) (A3)).mono ?_
 rintro e w11 ⟨rfl,hb11⟩
 have z12:=hb11.size
 try simp at z12
 clear k1 f1 k2 f2 k3 f3
 refine Ae w w11 (Bc w.heap.size #[K,.slice p len cap,A,R,n,d,.slice (some ⟨vb,vo,none⟩) m vc,E] 179<|Bc (w.heap.size+1) #[.int .i64 0,.int .i64 0,.int .i64 0,.int .i64 0,.int .u64 0] 196<|Bc (w.heap.size+1+1) (V.map (Value.int .i64)).toArray 2<|Bz) ?_
 clear b1 b2 b3 hW
 rintro hW z13 ⟨⟨b1,yb1,k1,f1⟩,⟨b2,yb2,k2,f2⟩,⟨b3,yb3,k3,f3⟩,-⟩
 clear hb11
 go_upto_region 4 with(fail)
 clear k1 f1 k2 f2 k3 f3
 refine Ad w (Bc w.heap.size #[K,.slice p len cap,A,R,n,d,.slice (some ⟨vb,vo,none⟩) m vc,E] 179<|Bc (w.heap.size+1) #[.int .i64 0,.int .i64 0,.int .i64 0,.int .i64 0,.int .u64 0] 196<|Bc (w.heap.size+1+1) (V.map (Value.int .i64)).toArray 2<|Bc w11.heap.size #[.int .i64 ((j:Int)-(i:Int)),lo,hi,.int .i64 0,.int .u64 0] 196<|Bz) ?_
 clear b1 b2 b3 hW
 rintro W14 hW z15 ⟨⟨b1,yb1,k1,f1⟩,⟨b2,yb2,k2,f2⟩,⟨b3,yb3,k3,f3⟩,⟨b4,yb4,k4,f4⟩,-⟩
 clear H_c1 H_c2 b1
 go_wp2
 obtain⟨o,ho⟩:∃o,o=w11.heap.size:=⟨_,rfl⟩
 rw[<-ho] at b4
 have ho1:w.heap.size+1+1<o:=by omega
 replace ho:=Hd ho
 rw[show w11.heap.size=o from ho.out.symm]
 refine wp_loop (rpRel w i j lo hi V SS o) (fun a' _=>V.length-(Ak (a'.tmps.getD 33 undef)).toNat) ?_ ?_
 ·unfold rpRel
  exact⟨hW,b2,b3,0,Ac rfl,by omega,by rw[hW0.out,hW1.out];exact b4⟩
 ·clear hW b2 b3 b4
  rintro a' W ⟨hW,b1,b2,k,⟨u,rfl⟩,hk,b3⟩
  have hz:=hW.size
  have hz4:=b1.lt
  have hz5:=b2.lt
  have hz6:=b3.lt
  have hlen:V.length<=300:=by have:=hl.out;omega
  rcases Nat.lt_or_ge k V.length with hlt|hge
  ·obtain⟨v,hri⟩:∃v,V[k]? =some v:=⟨V[k],List.getElem?_eq_getElem hlt⟩
   have hm:v∈V:=List.mem_of_getElem? hri
   have q0:W.cell? ⟨w.heap.size+1+1,k,none⟩=some (v):=by rw[b2.cell];simp[hri]
   replace c3:=c3.out
   replace c4:=c4.out
   replace hri:=Hd hri
   have H_c31:=Hd (c3 v hm)
   have H_c41:=Hd (c4 k v hri.out)
   clear c3 c4
   have k3:=b3.cell
   have f3:=b3.frozen
   go_upto_region 7 with(fail)
   clear k3 f3 q0
   refine Ad w (Bc (w.heap.size+1) #[.int .i64 0,.int .i64 0,.int .i64 0,.int .i64 0,.int .u64 0] 196<|Bc (w.heap.size+1+1) (V.map (Value.int .i64)).toArray 2<|Bc o #[.int .i64 ((j:Int)-(i:Int)),lo,hi,.int .i64 (hiW (SS k)),.int .u64 (loW (SS k))] 196<|Bz) ?_
   clear b1 b2 b3 hW
   rintro W1 hW z2 hL
   refine Br 8 48 hW hL ?_
   iterate 3 refine dA ?_
   refine cA (fun W' hC=>H_c31.out W' (hW.trans (hC.1.of_priv hW.size))) ?_
   refine cA (fun W' hC=>H_c41.out W' (hW.trans (hC.1.of_priv hW.size))) ?_
   iterate 3 refine dA ?_
   clear hW hL
   rintro W3 hW z4 hL
   simp only[ndR]
   intros
   simp only[ndS]
   obtain⟨⟨b1,yb1,k1,f1⟩,⟨b2,yb2,k2,f2⟩,⟨b3,yb3,k3,f3⟩,-⟩:=hL
   go_wp2
   rw[show (k:Int)+1=((k+1:Nat):Int) by omega]
   refine⟨?_,by simp[Ak];omega⟩
   unfold rpRel
   exact⟨Aa,A3,A3,k+1,Ac rfl,by omega,A3⟩
  ·have e:k=V.length:=by omega
   subst e
   have k1:=b1.cell
   have f1:=b1.frozen
   have k2:=b2.cell
   have f2:=b2.frozen
   have k3:=b3.cell
   have f3:=b3.frozen
   go_wp2
   refine bodyPost_ret (v:= .agg #[.int .i64 ((j:Int)-(i:Int)),lo,hi,.int .i64 (hiW (SS V.length)),.int .u64 (loW (SS V.length))]) (by simp[results,Tryz.results203,go_sem,k1,f1,k2,f2,k3,f3,yb1,yb2,yb3]) rfl ⟨by rw[hS.out],Aa⟩
def Ap:List Int->Int
 | []=>0
 |x::l=>x+Ap l
theorem Em (a b:List Int):Ap (a++b)=Ap a+Ap b:=by
 induction a with
 |nil=>simp[Ap]
 |cons x a ih=>simp[Ap,ih];omega
theorem Qt (f:Nat->Int):∀n,Ap ((List.range n).map f)=Gw f n
 |0=>rfl
 |n+1=>by rw[List.range_succ,List.map_append,Em,Qt f n];simp[Ap,Gw]
theorem Gz {l:List Int} {B:Int} (h:∀v,v∈l-> -B<=v/\v<=B): -(B*l.length)<=Ap l/\Ap l<=B*l.length:=by
 induction l with
 |nil=>simp[Ap]
 |cons x l ih=>
  have a:=ih fun v hv=>h v (by simp[hv])
  have b:=h x (by simp)
  simp only[Ap,List.length_cons]
  rw[Int.natCast_add,Int.mul_add]
  omega
theorem foldl_mn (l:List Int):∀x,(l.foldl mn x<=x/\∀v,v∈l->l.foldl mn x<=v)/\(l.foldl mn x=x∨l.foldl mn x∈l):=by
 induction l with
 |nil=>intro x;simp
 |cons y l ih=>
  intro x
  obtain⟨⟨a,b⟩,c⟩:=ih (mn x y)
  obtain⟨m1,m2,m3⟩:=Hr x y
  simp only[List.foldl_cons]
  refine⟨⟨by omega,fun v hv=> ?_⟩,?_⟩
  ·simp only[List.mem_cons] at hv
   rcases hv with rfl|hv
   ·omega
   ·exact b v hv
  ·rcases c with c|c
   ·rcases m3 with m|m
    ·left;omega
    ·right;rw[c,m];simp
   ·right;simp[c]
theorem foldl_mx (l:List Int):∀x,(x<=l.foldl mx x/\∀v,v∈l->v<=l.foldl mx x)/\(l.foldl mx x=x∨l.foldl mx x∈l):=by
 induction l with
 |nil=>intro x;simp
 |cons y l ih=>
  intro x
  obtain⟨⟨a,b⟩,c⟩:=ih (mx x y)
  obtain⟨m1,m2,m3⟩:=L4 x y
  simp only[List.foldl_cons]
  refine⟨⟨by omega,fun v hv=> ?_⟩,?_⟩
  ·simp only[List.mem_cons] at hv
   rcases hv with rfl|hv
   ·omega
   ·exact b v hv
  ·rcases c with c|c
   ·rcases m3 with m|m
    ·left;omega
    ·right;rw[c,m];simp
   ·right;simp[c]
theorem F3 {l:List Int} (h:l≠ []):Bh l∈l/\∀v,v∈l->Bh l<=v:=by
 cases l with
 |nil=>exact absurd rfl h
 |cons x l=>
  obtain⟨⟨a,b⟩,c⟩:=foldl_mn l x
  refine⟨?_,fun v hv=> ?_⟩
  ·rcases c with c|c
   ·simp only[Bh,c];simp
   ·simp only[Bh];simp[c]
  ·simp only[List.mem_cons] at hv
   rcases hv with rfl|hv
   ·exact a
   ·exact b v hv
theorem F4 {l:List Int} (h:l≠ []):Bi l∈l/\∀v,v∈l->v<=Bi l:=by
 cases l with
 |nil=>exact absurd rfl h
 |cons x l=>
  obtain⟨⟨a,b⟩,c⟩:=foldl_mx l x
  refine⟨?_,fun v hv=> ?_⟩
  ·rcases c with c|c
   ·simp only[Bi,c];simp
   ·simp only[Bi];simp[c]
  ·simp only[List.mem_cons] at hv
   rcases hv with rfl|hv
   ·exact a
   ·exact b v hv
theorem Ns {l:List Int} {m:Int} (h:m∈l) (k:∀v,v∈l->m<=v):Bh l=m:=by
 have a:=F3 (l:=l) (fun e=>by rw[e] at h;simp at h)
 have:=k _ a.1
 have:=a.2 _ h
 omega
theorem Nt {l:List Int} {m:Int} (h:m∈l) (k:∀v,v∈l->v<=m):Bi l=m:=by
 have a:=F4 (l:=l) (fun e=>by rw[e] at h;simp at h)
 have:=k _ a.1
 have:=a.2 _ h
 omega
theorem Pg {a b:List Int} (ha:a≠ []) (hb:b≠ []):Bh (a++b)=min (Bh a) (Bh b):=by
 obtain⟨a1,a2⟩:=F3 ha
 obtain⟨b1,b2⟩:=F3 hb
 apply Ns
 ·rw[Int.min_def];split<;>simp[a1,b1]
 ·intro v hv
  simp only[List.mem_append] at hv
  rcases hv with hv|hv
  ·have:=a2 v hv;omega
  ·have:=b2 v hv;omega
theorem Pi {a b:List Int} (ha:a≠ []) (hb:b≠ []):Bi (a++b)=max (Bi a) (Bi b):=by
 obtain⟨a1,a2⟩:=F4 ha
 obtain⟨b1,b2⟩:=F4 hb
 apply Nt
 ·rw[Int.max_def];split<;>simp[a1,b1]
 ·intro v hv
  simp only[List.mem_append] at hv
  rcases hv with hv|hv
  ·have:=a2 v hv;omega
  ·have:=b2 v hv;omega
def slice (l:List Int) (i j:Nat):List Int:=(l.take j).drop i
theorem Ng (l:List Int) (i j k:Nat):(slice l i j)[k]? =if i+k<j then l[i+k]? else none:=by
 unfold slice
 rw[List.getElem?_drop,List.getElem?_take]
theorem G3 {l:List Int} {i j:Nat} (hj:j<=l.length):(slice l i j).length=j-i:=by unfold slice;simp;omega
theorem R3 (f:Int->Int) (l:List Int) (i j:Nat):slice (l.map f) i j=(slice l i j).map f:=by unfold slice;rw[<-List.map_take,<-List.map_drop]
theorem U3 (r:Ah) (i j:Int) (hc:0<=r.c):Af (Gx r i j)=slice (B9 r) i.toNat j.toNat:=by
 obtain⟨x1,x2,x3⟩:=L4 i 0
 obtain⟨y1,y2,y3⟩:=Hr j r.c
 have hx:mx i 0=(i.toNat:Int):=by omega
 have at':∀k:Nat,(B9 r)[k]? =if (k:Int)<r.c then some (r.f+r.s*(k:Int)) else none:=by
  intro k
  split
  ·exact Fq r k (by assumption)
  ·rw[List.getElem?_eq_none_iff,Ct];omega
 apply List.ext_getElem?
 intro k
 rw[Ng,at']
 unfold Gx
 split
 ·rename_i h
  simp only[Af,List.append_nil]
  by_cases hk:(k:Int)<mn j r.c-mx i 0
  ·rw[Fq _ k hk,if_pos (by omega),if_pos (by omega),hx,Int.natCast_add,Int.mul_add]
   simp only[Option.some.injEq]
   omega
  ·rw[List.getElem?_eq_none_iff.2 (by rw[Ct];simp only[];omega)]
   split
   ·rw[if_neg (by omega)]
   ·rfl
 ·simp only[Af,List.getElem?_nil]
  split
  ·rw[if_neg (by omega)]
  ·rfl
theorem Tb (a b:List Int) (i j:Nat):slice (a++b) i j=slice a i j++slice b (i-a.length) (j-a.length):=by
 unfold slice
 rw[List.take_append,List.drop_append]
 congr 1
 by_cases h:a.length<=j
 ·simp[List.length_take,Nat.min_eq_right h]
 ·rw[show j-a.length=0 by omega];simp
theorem Dn (a b:List Ah):Af (a++b)=Af a++Af b:=by
 induction a with
 |nil=>rfl
 |cons r a ih=>simp[Af,ih]
theorem Jz :∀(l:List Ah) (i j:Int),(∀r,r∈l->0<=r.c)->Af (Aw l i j)=slice (Af l) i.toNat j.toNat
 | [],i,j,_=>by simp[Aw,Af,slice]
 |r::l,i,j,h=>by
  have hr:=h r (by simp)
  simp only[Aw,Dn]
  rw[show Af (r::l)=B9 r++Af l from rfl,Tb,U3 r i j hr,Jz l (i-r.c) (j-r.c) fun r hr=>h r (by simp[hr]),Ct]
  congr 2<;>omega
def Dj (s:A4) (t:Int):Int:=Bk s.A s.R s.n s.d (t-Bm s.runs)
def Fc (s:A4):List Int:=if s.K=4 then s.raw else (Af s.runs).map (Dj s)
def Nn (W:List Int):Array Value:= #[.int .i64 W.length,.int .i64 (Bh W),.int .i64 (Bi W),.int .i64 (hiW (Ap W)),.int .u64 (loW (Ap W))]
theorem Fo {v:Int}:A6 v=true↔-2305844108725321728<=v/\v<=2305844108725321728:=by unfold A6;simp
theorem Qv {A R n d t t':Int} (hd:1<=d) (hn:0<=n) (h:t<=t'):Bk A R n d t<=Bk A R n d t':=by
 unfold Bk
 have:=Int.mul_le_mul_of_nonneg_left h hn
 have:=Int.ediv_le_ediv (show 0<d by omega) (show n*t+R<=n*t'+R by omega)
 omega
theorem Nu {A R n d t t':Int} (hd:1<=d) (hn:n<=0) (h:t<=t'):Bk A R n d t'<=Bk A R n d t:=by
 unfold Bk
 have:=Int.mul_le_mul_of_nonpos_left hn h
 have:=Int.ediv_le_ediv (show 0<d by omega) (show n*t'+R<=n*t+R by omega)
 omega
theorem Kh {A R n d a t b:Int} (hd:1<=d) (h1:a<=t) (h2:t<=b):
  min (Bk A R n d a) (Bk A R n d b)<=Bk A R n d t/\Bk A R n d t<=max (Bk A R n d a) (Bk A R n d b):=by
 rcases Int.le_total 0 n with hn|hn
 ·have:=Qv (A:=A) (R:=R) hd hn h1
  have:=Qv (A:=A) (R:=R) hd hn h2
  omega
 ·have:=Nu (A:=A) (R:=R) hd hn h1
  have:=Nu (A:=A) (R:=R) hd hn h2
  omega
structure Ke (s:A4):Prop where
 runs:Ce s.runs
 line:M6 s.A s.R s.n s.d
 ends:Gd s.A s.R s.n s.d 0 (Cy s.runs-Bm s.runs)=true
theorem Lk {l:List Ah} (h:Ce l) {k:Nat} (hk:(k:Int)<cnt l):(Af l)[k]? =some (atV l k):=by
 obtain⟨v,e,_,e',_⟩:=Oe h (show (0:Int)<=k by omega) hk
 rw[M4 l k fun r hr=>by have:=(h.each r hr).c0;omega] at e
 rw[e,e']
theorem B7 {l:List Ah} (h:Ce l):((Af l).length:Int)=cnt l:=Cu l fun r hr=>by have:=(h.each r hr).c0;omega
theorem Fu {l:List Ah} (h:Ce l) {t:Int} (ht:t∈Af l):Bm l<=t/\t<=Cy l/\0<=t/\t<=281474976710656:=by
 obtain⟨k,hk⟩:=List.getElem?_of_mem ht
 have hlt:k<(Af l).length:=by rw[List.getElem?_eq_some_iff] at hk;exact hk.1
 have hl:=B7 h
 rw[Lk h (by omega)] at hk
 simp only[Option.some.injEq] at hk
 subst hk
 have:=Od h (show (0:Int)<=k by omega) (by omega)
 exact⟨H8 h (by omega) (by omega) (by omega),H8 h (by omega) (by omega) (by omega),this.1,this.2⟩
theorem Q6 {l:List Ah} (h:Ce l):0<=Bm l/\Bm l<=281474976710656:=Od h (by omega) (by have:=D6 h;omega)
theorem last_in {l:List Ah} (h:Ce l):0<=Cy l/\Cy l<=281474976710656:=Od h (by have:=D6 h;omega) (by omega)
theorem Ke.back {s:A4} (h:Ke s) {t:Int} (h1:Bm s.runs<=t) (h2:t<=Cy s.runs):A6 (Dj s t)=true:=by
 have e:=h.ends
 unfold Gd at e
 simp only[Bool.and_eq_true,Fo] at e
 have:=Kh (A:=s.A) (R:=s.R) (n:=s.n) (d:=s.d) h.line.d0 (show 0<=t-Bm s.runs by omega) (show t-Bm s.runs<=Cy s.runs-Bm s.runs by omega)
 rw[Fo]
 unfold Dj
 omega
theorem L5 {l:List Int} {i j:Nat} {v:Int} (h:v∈slice l i j):∃k,i<=k/\k<j/\l[k]? =some v:=by
 obtain⟨k,hk⟩:=List.getElem?_of_mem h
 rw[Ng] at hk
 split at hk
 ·exact⟨i+k,by omega,by omega,hk⟩
 ·cases hk
theorem slice_mem {l:List Int} {i j k:Nat} {v:Int} (h1:i<=k) (h2:k<j) (h:l[k]? =some v):v∈slice l i j:=by
 refine List.mem_of_getElem? (i:=k-i) ?_
 rw[Ng,if_pos (by omega),show i+(k-i)=k by omega]
 exact h
theorem Yk {l:List Ah} {r:Ah} (h:r∈l) {t:Int} (ht:t∈B9 r):t∈Af l:=by
 induction l with
 |nil=>simp at h
 |cons a l ih=>
  simp only[Af,List.mem_append]
  simp only[List.mem_cons] at h
  rcases h with rfl|h
  ·exact .inl ht
  ·exact .inr (ih h)
theorem Pf :∀ {l:List Ah} {i j:Int},(∀r,r∈l->Fb r)->∀r,r∈Aw l i j->1<=r.c/\r.c<=256/\0<=r.s/\r.s<=281474976710656
 | [],_,_,_,r,h=>by simp[Aw] at h
 |a::l,i,j,ha,r,h=>by
  have h0:=ha a (by simp)
  simp only[Aw,List.mem_append] at h
  rcases h with h|h
  ·unfold Gx at h
   split at h
   ·simp only[List.mem_singleton] at h
    subst h
    obtain⟨x1,x2,-⟩:=L4 i 0
    obtain⟨y1,y2,-⟩:=Hr j a.c
    have:=h0.c1;have:=h0.s0;have:=h0.s1
    exact⟨by simp only[];omega,by simp only[];omega,h0.s0,h0.s1⟩
   ·simp at h
  ·exact Pf (fun r hr=>ha r (by simp[hr])) r h
theorem Vm {l:List Ah} (hl:Ce l) {i j:Int} {r:Ah} (h:r∈Aw l i j):
  1<=r.c/\r.c<=256/\0<=r.s/\r.s<=281474976710656/\Bm l<=r.f/\r.f+r.s*(r.c-1)<=Cy l/\∀t,t∈B9 r->t∈Af l:=by
 obtain⟨c0,c1,s0,s1⟩:=Pf hl.each r h
 have hsub:∀t,t∈B9 r->t∈Af l:=by
  intro t ht
  have:=Yk h ht
  rw[Jz l i j fun r hr=>by have:=(hl.each r hr).c0;omega] at this
  obtain⟨k,_,_,hk⟩:=L5 this
  exact List.mem_of_getElem? hk
 have a:=Fq r 0 (by omega)
 have b:=Fq r (r.c.toNat-1) (by omega)
 have e:((r.c.toNat-1:Nat):Int)=r.c-1:=by omega
 rw[e] at b
 have a':=Fu hl (hsub _ (List.mem_of_getElem? a))
 have b':=Fu hl (hsub _ (List.mem_of_getElem? b))
 simp at a'
 exact⟨c0,c1,s0,s1,a'.1,b'.2.1,hsub⟩
theorem Ws (a b:Int) (w:World) (ha:Bt a) (hb:Bt b) (hab:Bt (a+b)):
  Cb 16 #[B4 a,B4 b] w (.tuple #[B4 (a+b),.int .i64 0]):=by
 have:=S0 a b w ha hb
 rw[Ka hab,Dv hab] at this
 exact this
def U8 (s:A4) (P:List Ah):Int:=Ap ((Af P).map (Dj s))
theorem sumP_bd {s:A4} (h:Ke s) {P:List Ah} (hP:∀t,t∈Af P->t∈Af s.runs) (hn:(Af P).length<=256): -590296091833682362368<=U8 s P/\U8 s P<=590296091833682362368:=by
 have:=Gz (l:=(Af P).map (Dj s)) (B:=2305844108725321728) (by
  intro v hv
  simp only[List.mem_map] at hv
  obtain⟨t,ht,rfl⟩:=hv
  have:=Fu h.runs (hP t ht)
  exact Fo.1 (h.back this.1 this.2.1))
 unfold U8
 rw[List.length_map] at this
 omega
theorem tSum (s:A4) (r:Ah):Ap ((B9 r).map (Dj s))=Gw (fun i=>Bk s.A s.R s.n s.d (r.f-Bm s.runs+(i:Int)*r.s)) r.c.toNat:=by
 unfold B9
 rw[List.map_map,Qt]
 refine J1 _ fun i _=> ?_
 simp only[Function.comp,Dj]
 congr 1
 rw[Int.mul_comm];omega
theorem sumP_take {s:A4} {P:List Ah} {k:Nat} {r:Ah} (hr:P[k]? =some r):U8 s (P.take (k+1))=U8 s (P.take k)+Ap ((B9 r).map (Dj s)):=by
 rw[List.getElem?_eq_some_iff] at hr
 obtain⟨hi,rfl⟩:=hr
 unfold U8
 rw[List.take_succ_eq_append_getElem hi,Dn,List.map_append,Em]
 simp[Af]
theorem Qd {P:List Ah} (k:Nat):∃Q,Af P=Af (P.take k)++Q:=⟨Af (P.drop k),by rw[<-Dn,List.take_append_drop]⟩
theorem Zj (s:A4) (p q:Option Addr) (cap vc:Nat) (i j:Int) (w:World) (h:C7 w s p q) (hs:Ke s) (hK:s.K≠4) (hi:0<=i) (hij:i<j) (hj:j<=cnt s.runs):
  Cb 201 #[.agg (Dh s p q cap vc),.int .i64 i,.int .i64 j] w (.agg (Nn (slice (Fc s) i.toNat j.toNat))):=by
 have hl:=hs.runs
 obtain⟨n0,n1⟩:=D6 hl
 have hf:=Q6 hl
 have hla:=last_in hl
 have ai:=Od hl hi (show i<cnt s.runs by omega)
 have aj:=Od hl (show 0<=j-1 by omega) (by omega)
 have m1:Bm s.runs<=atV s.runs i:=H8 hl (by omega) hi (by omega)
 have m2:atV s.runs i<=atV s.runs (j-1):=H8 hl hi (by omega) (by omega)
 have m3:atV s.runs (j-1)<=Cy s.runs:=H8 hl (by omega) (by omega) (by omega)
 have hlen:=B7 hl
 have hpl:=F5 s.runs i j
 have hpt:=Jz s.runs i j fun r hr=>by have:=(hl.each r hr).c0;omega
 have hfew:=hl.few
 have hE:∀W,Calls Tryz.prog 215 #[.agg #[.int .i64 s.A,.int .i64 s.R,.int .i64 s.n,.int .i64 s.d],.int .i64 (atV s.runs i-Bm s.runs),.int .i64 (atV s.runs (j-1)-Bm s.runs)] W fun e w'=>
   e= .returned (.tuple #[.agg #[.int .i64 (min (Dj s (atV s.runs i)) (Dj s (atV s.runs (j-1)))),.int .i64 (max (Dj s (atV s.runs i)) (Dj s (atV s.runs (j-1))))],.int .i64 0])/\Below W.heap.size W w':=by
  intro W
  have:=c_Ends s.A s.R s.n s.d (atV s.runs i-Bm s.runs) (atV s.runs (j-1)-Bm s.runs) W hs.line (by omega) (by omega) (by omega)
  have e:Gd s.A s.R s.n s.d (atV s.runs i-Bm s.runs) (atV s.runs (j-1)-Bm s.runs)=true:=by
   unfold Gd
   rw[Bool.and_eq_true]
   exact⟨hs.back m1 (by omega),hs.back (by omega) m3⟩
  rw[e] at this
  exact this
 have hvals:Fc s=(Af s.runs).map (Dj s):=by unfold Fc;rw[if_neg hK]
 have hsub:∀k t,t∈Af ((Aw s.runs i j).take k)->t∈Af s.runs:=by
  intro k t ht
  obtain⟨Q,hQ⟩:=Qd (P:=Aw s.runs i j) k
  have:t∈Af (Aw s.runs i j):=by rw[hQ];simp[ht]
  rw[hpt] at this
  obtain⟨k,_,_,hk⟩:=L5 this
  exact List.mem_of_getElem? hk
 have hslen:(slice (Af s.runs) i.toNat j.toNat).length=j.toNat-i.toNat:=G3 (by omega)
 have hcnt:∀k,(Af ((Aw s.runs i j).take k)).length<=256:=by
  intro k
  obtain⟨Q,hQ⟩:=Qd (P:=Aw s.runs i j) k
  rw[hpt] at hQ
  have:=congrArg List.length hQ
  rw[hslen,List.length_append] at this
  omega
 have hbd:=fun k=>sumP_bd hs (hsub k) (hcnt k)
 have key:=Yn s.K s.A s.R s.n s.d s.E p q s.runs.length cap s.raw.length vc w i j (Bm s.runs) (Cy s.runs-Bm s.runs) (atV s.runs i) (atV s.runs (j-1))
  (min (Dj s (atV s.runs i)) (Dj s (atV s.runs (j-1)))) (max (Dj s (atV s.runs i)) (Dj s (atV s.runs (j-1)))) (Ap (slice (Fc s) i.toNat j.toNat)) (Aw s.runs i j) (fun k=>U8 s ((Aw s.runs i j).take k)) (fun r=>Ap ((B9 r).map (Dj s)))
  ⟨hi,hij,by omega⟩ hf ai aj (by omega) (fun r hr=>by have:=Vm hl hr;have c:=Int.mul_nonneg this.2.2.1 (show 0<=r.c-1 by omega);omega) rfl
  (by simp only[List.take_length];unfold U8;rw[hpt,hvals,R3])
  (fun W hW=>c_span s p q cap vc W hl (h.below hW))
  (fun W hW=>c_at p cap s.runs i W hl (h.runs.below hW) hi (by omega))
  (fun W hW=>c_at p cap s.runs (j-1) W hl (h.runs.below hW) (by omega) (by omega))
  (fun W _=>hE W)
  (fun W hW=>by
   have hp:∃a,p=some a:=by
    have:=hl.some'
    obtain⟨b,o,e,_⟩:=h.runs.at' 0 _ (List.getElem?_eq_getElem this)
    exact⟨_,e⟩
   obtain⟨a,rfl⟩:=hp
   exact c_pieces a cap s.runs i j W hl (h.runs.below hW) hi hij hj)
  (fun r hr W _=>by
   have hp:=Vm hl hr
   have c:=Int.mul_nonneg hp.2.2.1 (show 0<=r.c-1 by omega)
   have:=c_fline s.A s.R s.n s.d (r.f-Bm s.runs) r.s r.c.toNat W hs.line ⟨by omega,hp.2.2.1,hp.2.2.2.1,by omega,by omega,by
    rw[Int.toNat_of_nonneg (by omega),Int.mul_comm];omega⟩
   rw[Int.toNat_of_nonneg (by omega)] at this
   rw[tSum]
   exact this)
  (fun k r hr W _=>by
   have e:=sumP_take (s:=s) hr
   have b1:=hbd k
   have b2:=hbd (k+1)
   simp only[e] at b2⊢
   exact Ws _ _ W (by unfold Bt;omega) (by unfold Bt;omega) (by unfold Bt;omega))
 refine key.mono ?_
 rintro e w' ⟨rfl,hB⟩
 refine⟨?_,hB⟩
 have hmem:∀v,v∈slice (Fc s) i.toNat j.toNat->∃t,v=Dj s t/\atV s.runs i<=t/\t<=atV s.runs (j-1):=by
  intro v hv
  rw[hvals,R3,List.mem_map] at hv
  obtain⟨t,ht,rfl⟩:=hv
  obtain⟨k,k1,k2,hk⟩:=L5 ht
  rw[Lk hl (by omega)] at hk
  simp only[Option.some.injEq] at hk
  subst hk
  exact⟨_,rfl,H8 hl hi (by omega) (by omega),H8 hl (by omega) (by omega) (by omega)⟩
 have hin:∀k:Nat,i<=k->(k:Int)<j->Dj s (atV s.runs k)∈slice (Fc s) i.toNat j.toNat:=by
  intro k k1 k2
  refine slice_mem (k:=k) (by omega) (by omega) ?_
  rw[hvals,List.getElem?_map,Lk hl (by omega)]
  rfl
 have hbt:∀v,v∈slice (Fc s) i.toNat j.toNat->min (Dj s (atV s.runs i)) (Dj s (atV s.runs (j-1)))<=v/\v<=max (Dj s (atV s.runs i)) (Dj s (atV s.runs (j-1))):=by
  intro v hv
  obtain⟨t,rfl,t1,t2⟩:=hmem v hv
  exact Kh hs.line.d0 (by omega) (by omega)
 have i1:=hin i.toNat (by omega) (by omega)
 have i2:=hin (j-1).toNat (by omega) (by omega)
 rw[Int.toNat_of_nonneg hi] at i1
 rw[Int.toNat_of_nonneg (by omega)] at i2
 have e1:Bh (slice (Fc s) i.toNat j.toNat)=min (Dj s (atV s.runs i)) (Dj s (atV s.runs (j-1))):=by
  refine Ns ?_ fun v hv=>(hbt v hv).1
  rw[Int.min_def];split
  ·exact i1
  ·exact i2
 have e2:Bi (slice (Fc s) i.toNat j.toNat)=max (Dj s (atV s.runs i)) (Dj s (atV s.runs (j-1))):=by
  refine Nt ?_ fun v hv=>(hbt v hv).2
  rw[Int.max_def];split
  ·exact i2
  ·exact i1
 have e3:((slice (Fc s) i.toNat j.toNat).length:Int)=j-i:=by
  rw[G3 (by rw[hvals,List.length_map];omega)];omega
 unfold Nn
 rw[e1,e2,e3]
attribute [local simp] Oper.looksAt Op.operands Call.operands Aj Det Ao
theorem Nl {s:A4} (h:s.raw.all A6=true) {v:Int} (hv:v∈s.raw): -2305844108725321728<=v/\v<=2305844108725321728:=Fo.1 (List.all_eq_true.1 h v hv)
theorem Xz {l:List Int} {i j:Nat} (h:i<=j):slice l i j=(l.drop i).take (j-i):=by
 apply List.ext_getElem?
 intro k
 rw[Ng,List.getElem?_take,List.getElem?_drop]
 by_cases hk:i+k<j
 ·rw[if_pos hk,if_pos (by omega)]
 ·rw[if_neg hk,if_neg (by omega)]
theorem c_rawPart (s:A4) (p q:Option Addr) (cap vc:Nat) (i j:Int) (w:World) (h:C7 w s p q) (hvc:s.raw.length<=vc) (hs:s.raw.all A6=true) (hl:(s.raw.length:Int)<=256) (hK:s.K=4) (hi:0<=i) (hij:i<j) (hj:j<=s.raw.length):
  Cb 203 #[.agg (Dh s p q cap vc),i,j] w (.agg (Nn (slice (Fc s) i.toNat j.toNat))):=by
 obtain⟨a,rfl⟩:∃a:Nat,i=(a:Int):=⟨i.toNat,by omega⟩
 obtain⟨b,rfl⟩:∃a:Nat,j=(a:Int):=⟨j.toNat,by omega⟩
 have hv:Fc s=s.raw:=by unfold Fc;rw[if_pos hK]
 obtain⟨vb,vo,hq,_⟩:=h.raw.at' 0 _ (List.getElem?_eq_getElem (show 0<s.raw.length by omega))
 subst hq
 have hlen:(slice s.raw a b).length=b-a:=G3 (by omega)
 have hne:0<(slice s.raw a b).length:=by omega
 have hm:∀v,v∈slice s.raw a b->v∈s.raw:=by
  intro v hv
  obtain⟨k,_,_,hk⟩:=L5 hv
  exact List.mem_of_getElem? hk
 have hbd:∀k,-590296091833682362368<=Ap ((slice s.raw a b).take k)/\Ap ((slice s.raw a b).take k)<=590296091833682362368:=by
  intro k
  have:=Gz (l:=(slice s.raw a b).take k) (B:=2305844108725321728) (fun v hv=>Nl hs (hm v (List.mem_of_mem_take hv)))
  have:((slice s.raw a b).take k).length<=256:=by rw[List.length_take];omega
  omega
 have key:=rawpart_w s.K s.A s.R s.n s.d s.E p vb vo s.runs.length cap s.raw.length vc w a b (Bh (slice s.raw a b)) (Bi (slice s.raw a b)) (Ap (slice s.raw a b)) s.raw (slice s.raw a b) (fun k=>Ap ((slice s.raw a b).take k)) rfl
  ⟨by omega,by omega,hvc,by omega⟩ (Xz (by omega)) h.raw rfl (by simp only[List.take_length])
  (fun W _ hb=>min_w _ _ _ W hne (by omega) (Au.of_blk hb))
  (fun W _ hb=>max_w _ _ _ W hne (by omega) (Au.of_blk hb))
  (fun v hv W _=>Rt v W (by have:=Nl hs (hm v hv);omega))
  (fun k v hv W _=>by
   have b1:=hbd k
   have b2:=hbd (k+1)
   have b3:=Nl hs (hm v (List.mem_of_getElem? hv))
   have e:(slice s.raw a b).take (k+1)=(slice s.raw a b).take k++ [v]:=by
    rw[List.getElem?_eq_some_iff] at hv
    obtain⟨hi,rfl⟩:=hv
    exact List.take_succ_eq_append_getElem hi
   have e':Ap ((slice s.raw a b).take (k+1))=Ap ((slice s.raw a b).take k)+v:=by rw[e,Em];simp[Ap]
   simp only[e'] at b2⊢
   exact Ws _ _ W (by unfold Bt;omega) (by unfold Bt;omega) (by unfold Bt;omega))
 refine key.mono ?_
 rintro e w' ⟨rfl,hB⟩
 refine⟨?_,hB⟩
 rw[hv]
 unfold Nn
 rw[show ((b:Int)).toNat=b from rfl,show ((a:Int)).toNat=a from rfl,hlen,show ((b-a:Nat):Int)=(b:Int)-a by omega]
theorem Yg (K A R n d E:Int) (p q:Option Addr) (len cap m vc:Nat) (w:World) (ga gb:Nat) (a b i j c0 c1' c2' c3' c4':Int) (hga:Blk w ga #[a] 2) (hgb:Blk w gb #[b] 2) (hij:¬i<j)
  (c1:∀W,Below w.heap.size w W->Cb 189 #[.slice p len cap,a,b] W (.tuple #[i,j]))
   :
  Cb 188 #[.agg #[K,.slice p len cap,A,R,n,d,.slice q m vc,E],.pointer (some ⟨ga,0,none⟩),.pointer (some ⟨gb,0,none⟩)] w (.tuple #[.agg #[.int .i64 0,.int .i64 0,.int .i64 0,.int .i64 0,.int .u64 0],.int .i64 9]):=by
 have y1:=hga.lt
 have y2:=hgb.lt
 have H_c1:=Hd c1
 clear c1
 go_enter Tryz.func188,Tryz.ntmps188
 go_upto_region 1 with(fail)
 refine Ad w (Bc w.heap.size #[K,.slice p len cap,A,R,n,d,.slice q m vc,E] 179<|Bc (w.heap.size+1) #[.int .i64 0,.int .i64 0,.int .i64 0,.int .i64 0,.int .u64 0] 196<|Bc ga #[a] 2<|Bc gb #[b] 2<|Bz) ?_
 rintro W1 hW z2 ⟨⟨b1,yb1,k1,f1⟩,⟨b2,yb2,k2,f2⟩,⟨b3,yb3,k3,f3⟩,⟨b4,yb4,k4,f4⟩,-⟩
 go_wp2_with fail
 refine(H_c1.out _ (Aa)).mono ?_
 rintro e w3 ⟨rfl,hb3⟩
 have z4:=hb3.size
 try simp at z4
 clear k1 f1 k2 f2 k3 f3 k4 f4
 refine Ae w w3 (Bc w.heap.size #[K,.slice p len cap,A,R,n,d,.slice q m vc,E] 179<|Bc (w.heap.size+1) #[.int .i64 0,.int .i64 0,.int .i64 0,.int .i64 0,.int .u64 0] 196<|Bc ga #[a] 2<|Bc gb #[b] 2<|Bz) ?_
 clear b1 b2 b3 b4 hW
 rintro hW z5 ⟨⟨b1,yb1,k1,f1⟩,⟨b2,yb2,k2,f2⟩,⟨b3,yb3,k3,f3⟩,⟨b4,yb4,k4,f4⟩,-⟩
 clear hb3
 go_wp2
 refine bodyPost_ret (by simp[results,Tryz.results188,go_sem,k1,f1,k2,f2,k3,f3,k4,f4,yb1,yb2,yb3,yb4]) rfl ⟨rfl,by exact Aa⟩
theorem part1_1 (K A R n d E:Int) (p q:Option Addr) (len cap m vc:Nat) (w:World) (ga gb:Nat) (a b i j c0 c1' c2' c3' c4':Int) (hga:Blk w ga #[a] 2) (hgb:Blk w gb #[b] 2) (hij:i<j)
  (c1:∀W,Below w.heap.size w W->Cb 189 #[.slice p len cap,a,b] W (.tuple #[i,j]))
  (c3:∀W,Below w.heap.size w W->Cb 201 #[.agg #[.int .i64 1,.slice p len cap,A,R,n,d,.slice q m vc,E],i,j] W (.agg #[c0,c1',c2',c3',.int .u64 c4'])):
  Cb 188 #[.agg #[.int .i64 1,.slice p len cap,A,R,n,d,.slice q m vc,E],.pointer (some ⟨ga,0,none⟩),.pointer (some ⟨gb,0,none⟩)] w (.tuple #[.agg #[c0,c1',c2',c3',.int .u64 c4'],.int .i64 0]):=by
 have y1:=hga.lt
 have y2:=hgb.lt
 have H_c1:=Hd c1
 clear c1
 have H_c3:=Hd c3
 clear c3
 go_enter Tryz.func188,Tryz.ntmps188
 go_upto_region 1 with(fail)
 refine Ad w (Bc w.heap.size #[.int .i64 1,.slice p len cap,A,R,n,d,.slice q m vc,E] 179<|Bc (w.heap.size+1) #[.int .i64 0,.int .i64 0,.int .i64 0,.int .i64 0,.int .u64 0] 196<|Bc ga #[a] 2<|Bc gb #[b] 2<|Bz) ?_
 rintro W1 hW z2 ⟨⟨b1,yb1,k1,f1⟩,⟨b2,yb2,k2,f2⟩,⟨b3,yb3,k3,f3⟩,⟨b4,yb4,k4,f4⟩,-⟩
 go_wp2_with fail
 refine(H_c1.out _ (Aa)).mono ?_
 rintro e w3 ⟨rfl,hb3⟩
 have z4:=hb3.size
 try simp at z4
 clear k1 f1 k2 f2 k3 f3 k4 f4
 refine Ae w w3 (Bc w.heap.size #[.int .i64 1,.slice p len cap,A,R,n,d,.slice q m vc,E] 179<|Bc (w.heap.size+1) #[.int .i64 0,.int .i64 0,.int .i64 0,.int .i64 0,.int .u64 0] 196<|Bc ga #[a] 2<|Bc gb #[b] 2<|Bz) ?_
 clear b1 b2 b3 b4 hW
 rintro hW z5 ⟨⟨b1,yb1,k1,f1⟩,⟨b2,yb2,k2,f2⟩,⟨b3,yb3,k3,f3⟩,⟨b4,yb4,k4,f4⟩,-⟩
 clear hb3
 go_upto_region 4 with(fail)
 clear k1 f1 k2 f2 k3 f3 k4 f4
 refine Ad w (Bc w.heap.size #[.int .i64 1,.slice p len cap,A,R,n,d,.slice q m vc,E] 179<|Bc (w.heap.size+1) #[.int .i64 0,.int .i64 0,.int .i64 0,.int .i64 0,.int .u64 0] 196<|Bc ga #[a] 2<|Bc gb #[b] 2<|Bz) ?_
 clear b1 b2 b3 b4 hW
 rintro W6 hW z7 hL
 obtain⟨⟨b1,yb1,k1,f1⟩,⟨b2,yb2,k2,f2⟩,⟨b3,yb3,k3,f3⟩,⟨b4,yb4,k4,f4⟩,-⟩:=id hL
 clear k1 f1 k2 f2 k3 f3 k4 f4
 refine Br 10 31 hW hL ?_
 refine cA (fun W' hC=>Hv W') ?_
 iterate 3 refine dA ?_
 apply Ag (c:= .agg #[.func (.func 197) #[] #[],.func (.func 201) #[] #[]]) (hg:=rfl) (hal:=rfl)
 ·intro a W' hC hE
  simp[Oper.looksAt,Op.operands,Call.operands,Aj,Det,Ao] at hE
  simp[go_sem,Act.eval,hE]
  kernel_rfl
 iterate 4 refine dA ?_
 refine cA (fun W' hC=>H_c3.out W' (hW.trans (hC.1.of_priv hW.size))) ?_
 clear hW hL b1 b2 b3 b4
 rintro W8 hW z9 hL
 simp only[ndR]
 intros
 simp only[ndS]
 obtain⟨⟨b1,yb1,k1,f1⟩,⟨b2,yb2,k2,f2⟩,⟨b3,yb3,k3,f3⟩,⟨b4,yb4,k4,f4⟩,-⟩:=hL
 go_wp2
 refine bodyPost_ret (by simp[results,Tryz.results188,go_sem,k1,f1,k2,f2,k3,f3,k4,f4,yb1,yb2,yb3,yb4]) rfl ⟨rfl,by exact Aa⟩
theorem part1_2 (K A R n d E:Int) (p q:Option Addr) (len cap m vc:Nat) (w:World) (ga gb:Nat) (a b i j c0 c1' c2' c3' c4':Int) (hga:Blk w ga #[a] 2) (hgb:Blk w gb #[b] 2) (hij:i<j)
  (c1:∀W,Below w.heap.size w W->Cb 189 #[.slice p len cap,a,b] W (.tuple #[i,j]))
  (c3:∀W,Below w.heap.size w W->Cb 201 #[.agg #[.int .i64 2,.slice p len cap,A,R,n,d,.slice q m vc,E],i,j] W (.agg #[c0,c1',c2',c3',.int .u64 c4'])):
  Cb 188 #[.agg #[.int .i64 2,.slice p len cap,A,R,n,d,.slice q m vc,E],.pointer (some ⟨ga,0,none⟩),.pointer (some ⟨gb,0,none⟩)] w (.tuple #[.agg #[c0,c1',c2',c3',.int .u64 c4'],.int .i64 0]):=by
 have y1:=hga.lt
 have y2:=hgb.lt
 have H_c1:=Hd c1
 clear c1
 have H_c3:=Hd c3
 clear c3
 go_enter Tryz.func188,Tryz.ntmps188
 go_upto_region 1 with(fail)
 refine Ad w (Bc w.heap.size #[.int .i64 2,.slice p len cap,A,R,n,d,.slice q m vc,E] 179<|Bc (w.heap.size+1) #[.int .i64 0,.int .i64 0,.int .i64 0,.int .i64 0,.int .u64 0] 196<|Bc ga #[a] 2<|Bc gb #[b] 2<|Bz) ?_
 rintro W1 hW z2 ⟨⟨b1,yb1,k1,f1⟩,⟨b2,yb2,k2,f2⟩,⟨b3,yb3,k3,f3⟩,⟨b4,yb4,k4,f4⟩,-⟩
 go_wp2_with fail
 refine(H_c1.out _ (Aa)).mono ?_
 rintro e w3 ⟨rfl,hb3⟩
 have z4:=hb3.size
 try simp at z4
 clear k1 f1 k2 f2 k3 f3 k4 f4
 refine Ae w w3 (Bc w.heap.size #[.int .i64 2,.slice p len cap,A,R,n,d,.slice q m vc,E] 179<|Bc (w.heap.size+1) #[.int .i64 0,.int .i64 0,.int .i64 0,.int .i64 0,.int .u64 0] 196<|Bc ga #[a] 2<|Bc gb #[b] 2<|Bz) ?_
 clear b1 b2 b3 b4 hW
 rintro hW z5 ⟨⟨b1,yb1,k1,f1⟩,⟨b2,yb2,k2,f2⟩,⟨b3,yb3,k3,f3⟩,⟨b4,yb4,k4,f4⟩,-⟩
 clear hb3
 go_upto_region 4 with(fail)
 clear k1 f1 k2 f2 k3 f3 k4 f4
 refine Ad w (Bc w.heap.size #[.int .i64 2,.slice p len cap,A,R,n,d,.slice q m vc,E] 179<|Bc (w.heap.size+1) #[.int .i64 0,.int .i64 0,.int .i64 0,.int .i64 0,.int .u64 0] 196<|Bc ga #[a] 2<|Bc gb #[b] 2<|Bz) ?_
 clear b1 b2 b3 b4 hW
 rintro W6 hW z7 hL
 obtain⟨⟨b1,yb1,k1,f1⟩,⟨b2,yb2,k2,f2⟩,⟨b3,yb3,k3,f3⟩,⟨b4,yb4,k4,f4⟩,-⟩:=id hL
 clear k1 f1 k2 f2 k3 f3 k4 f4
 refine Br 10 31 hW hL ?_
 refine cA (fun W' hC=>Hv W') ?_
 iterate 3 refine dA ?_
 apply Ag (c:= .agg #[.func (.func 199) #[] #[],.func (.func 201) #[] #[]]) (hg:=rfl) (hal:=rfl)
 ·intro a W' hC hE
  simp[Oper.looksAt,Op.operands,Call.operands,Aj,Det,Ao] at hE
  simp[go_sem,Act.eval,hE]
  kernel_rfl
 iterate 4 refine dA ?_
 refine cA (fun W' hC=>H_c3.out W' (hW.trans (hC.1.of_priv hW.size))) ?_
 clear hW hL b1 b2 b3 b4
 rintro W8 hW z9 hL
 simp only[ndR]
 intros
 simp only[ndS]
 obtain⟨⟨b1,yb1,k1,f1⟩,⟨b2,yb2,k2,f2⟩,⟨b3,yb3,k3,f3⟩,⟨b4,yb4,k4,f4⟩,-⟩:=hL
 go_wp2
 refine bodyPost_ret (by simp[results,Tryz.results188,go_sem,k1,f1,k2,f2,k3,f3,k4,f4,yb1,yb2,yb3,yb4]) rfl ⟨rfl,by exact Aa⟩
theorem part1_3 (K A R n d E:Int) (p q:Option Addr) (len cap m vc:Nat) (w:World) (ga gb:Nat) (a b i j c0 c1' c2' c3' c4':Int) (hga:Blk w ga #[a] 2) (hgb:Blk w gb #[b] 2) (hij:i<j)
  (c1:∀W,Below w.heap.size w W->Cb 189 #[.slice p len cap,a,b] W (.tuple #[i,j]))
  (c3:∀W,Below w.heap.size w W->Cb 201 #[.agg #[.int .i64 3,.slice p len cap,A,R,n,d,.slice q m vc,E],i,j] W (.agg #[c0,c1',c2',c3',.int .u64 c4'])):
  Cb 188 #[.agg #[.int .i64 3,.slice p len cap,A,R,n,d,.slice q m vc,E],.pointer (some ⟨ga,0,none⟩),.pointer (some ⟨gb,0,none⟩)] w (.tuple #[.agg #[c0,c1',c2',c3',.int .u64 c4'],.int .i64 0]):=by
 have y1:=hga.lt
 have y2:=hgb.lt
 have H_c1:=Hd c1
 clear c1
 have H_c3:=Hd c3
 clear c3
 go_enter Tryz.func188,Tryz.ntmps188
 go_upto_region 1 with(fail)
 refine Ad w (Bc w.heap.size #[.int .i64 3,.slice p len cap,A,R,n,d,.slice q m vc,E] 179<|Bc (w.heap.size+1) #[.int .i64 0,.int .i64 0,.int .i64 0,.int .i64 0,.int .u64 0] 196<|Bc ga #[a] 2<|Bc gb #[b] 2<|Bz) ?_
 rintro W1 hW z2 ⟨⟨b1,yb1,k1,f1⟩,⟨b2,yb2,k2,f2⟩,⟨b3,yb3,k3,f3⟩,⟨b4,yb4,k4,f4⟩,-⟩
 go_wp2_with fail
 refine(H_c1.out _ (Aa)).mono ?_
 rintro e w3 ⟨rfl,hb3⟩
 have z4:=hb3.size
 try simp at z4
 clear k1 f1 k2 f2 k3 f3 k4 f4
 refine Ae w w3 (Bc w.heap.size #[.int .i64 3,.slice p len cap,A,R,n,d,.slice q m vc,E] 179<|Bc (w.heap.size+1) #[.int .i64 0,.int .i64 0,.int .i64 0,.int .i64 0,.int .u64 0] 196<|Bc ga #[a] 2<|Bc gb #[b] 2<|Bz) ?_
 clear b1 b2 b3 b4 hW
 rintro hW z5 ⟨⟨b1,yb1,k1,f1⟩,⟨b2,yb2,k2,f2⟩,⟨b3,yb3,k3,f3⟩,⟨b4,yb4,k4,f4⟩,-⟩
 clear hb3
 go_upto_region 4 with(fail)
 clear k1 f1 k2 f2 k3 f3 k4 f4
 refine Ad w (Bc w.heap.size #[.int .i64 3,.slice p len cap,A,R,n,d,.slice q m vc,E] 179<|Bc (w.heap.size+1) #[.int .i64 0,.int .i64 0,.int .i64 0,.int .i64 0,.int .u64 0] 196<|Bc ga #[a] 2<|Bc gb #[b] 2<|Bz) ?_
 clear b1 b2 b3 b4 hW
 rintro W6 hW z7 hL
 obtain⟨⟨b1,yb1,k1,f1⟩,⟨b2,yb2,k2,f2⟩,⟨b3,yb3,k3,f3⟩,⟨b4,yb4,k4,f4⟩,-⟩:=id hL
 clear k1 f1 k2 f2 k3 f3 k4 f4
 refine Br 10 31 hW hL ?_
 refine cA (fun W' hC=>Hv W') ?_
 iterate 3 refine dA ?_
 apply Ag (c:= .agg #[.func (.func 200) #[] #[],.func (.func 201) #[] #[]]) (hg:=rfl) (hal:=rfl)
 ·intro a W' hC hE
  simp[Oper.looksAt,Op.operands,Call.operands,Aj,Det,Ao] at hE
  simp[go_sem,Act.eval,hE]
  kernel_rfl
 iterate 4 refine dA ?_
 refine cA (fun W' hC=>H_c3.out W' (hW.trans (hC.1.of_priv hW.size))) ?_
 clear hW hL b1 b2 b3 b4
 rintro W8 hW z9 hL
 simp only[ndR]
 intros
 simp only[ndS]
 obtain⟨⟨b1,yb1,k1,f1⟩,⟨b2,yb2,k2,f2⟩,⟨b3,yb3,k3,f3⟩,⟨b4,yb4,k4,f4⟩,-⟩:=hL
 go_wp2
 refine bodyPost_ret (by simp[results,Tryz.results188,go_sem,k1,f1,k2,f2,k3,f3,k4,f4,yb1,yb2,yb3,yb4]) rfl ⟨rfl,by exact Aa⟩
theorem part1_4 (K A R n d E:Int) (p q:Option Addr) (len cap m vc:Nat) (w:World) (ga gb:Nat) (a b i j c0 c1' c2' c3' c4':Int) (hga:Blk w ga #[a] 2) (hgb:Blk w gb #[b] 2) (hij:i<j)
  (c1:∀W,Below w.heap.size w W->Cb 189 #[.slice p len cap,a,b] W (.tuple #[i,j]))
  (c3:∀W,Below w.heap.size w W->Cb 203 #[.agg #[.int .i64 4,.slice p len cap,A,R,n,d,.slice q m vc,E],i,j] W (.agg #[c0,c1',c2',c3',.int .u64 c4'])):
  Cb 188 #[.agg #[.int .i64 4,.slice p len cap,A,R,n,d,.slice q m vc,E],.pointer (some ⟨ga,0,none⟩),.pointer (some ⟨gb,0,none⟩)] w (.tuple #[.agg #[c0,c1',c2',c3',.int .u64 c4'],.int .i64 0]):=by
 have y1:=hga.lt
 have y2:=hgb.lt
 have H_c1:=Hd c1
 clear c1
 have H_c3:=Hd c3
 clear c3
 go_enter Tryz.func188,Tryz.ntmps188
 go_upto_region 1 with(fail)
 refine Ad w (Bc w.heap.size #[.int .i64 4,.slice p len cap,A,R,n,d,.slice q m vc,E] 179<|Bc (w.heap.size+1) #[.int .i64 0,.int .i64 0,.int .i64 0,.int .i64 0,.int .u64 0] 196<|Bc ga #[a] 2<|Bc gb #[b] 2<|Bz) ?_
 rintro W1 hW z2 ⟨⟨b1,yb1,k1,f1⟩,⟨b2,yb2,k2,f2⟩,⟨b3,yb3,k3,f3⟩,⟨b4,yb4,k4,f4⟩,-⟩
 go_wp2_with fail
 refine(H_c1.out _ (Aa)).mono ?_
 rintro e w3 ⟨rfl,hb3⟩
 have z4:=hb3.size
 try simp at z4
 clear k1 f1 k2 f2 k3 f3 k4 f4
 refine Ae w w3 (Bc w.heap.size #[.int .i64 4,.slice p len cap,A,R,n,d,.slice q m vc,E] 179<|Bc (w.heap.size+1) #[.int .i64 0,.int .i64 0,.int .i64 0,.int .i64 0,.int .u64 0] 196<|Bc ga #[a] 2<|Bc gb #[b] 2<|Bz) ?_
 clear b1 b2 b3 b4 hW
 rintro hW z5 ⟨⟨b1,yb1,k1,f1⟩,⟨b2,yb2,k2,f2⟩,⟨b3,yb3,k3,f3⟩,⟨b4,yb4,k4,f4⟩,-⟩
 clear hb3
 go_upto_region 4 with(fail)
 clear k1 f1 k2 f2 k3 f3 k4 f4
 refine Ad w (Bc w.heap.size #[.int .i64 4,.slice p len cap,A,R,n,d,.slice q m vc,E] 179<|Bc (w.heap.size+1) #[.int .i64 0,.int .i64 0,.int .i64 0,.int .i64 0,.int .u64 0] 196<|Bc ga #[a] 2<|Bc gb #[b] 2<|Bz) ?_
 clear b1 b2 b3 b4 hW
 rintro W6 hW z7 hL
 obtain⟨⟨b1,yb1,k1,f1⟩,⟨b2,yb2,k2,f2⟩,⟨b3,yb3,k3,f3⟩,⟨b4,yb4,k4,f4⟩,-⟩:=id hL
 clear k1 f1 k2 f2 k3 f3 k4 f4
 refine Br 10 31 hW hL ?_
 refine cA (fun W' hC=>Hv W') ?_
 iterate 3 refine dA ?_
 apply Ag (c:= .agg #[.func (.func 202) #[] #[],.func (.func 203) #[] #[]]) (hg:=rfl) (hal:=rfl)
 ·intro a W' hC hE
  simp[Oper.looksAt,Op.operands,Call.operands,Aj,Det,Ao] at hE
  simp[go_sem,Act.eval,hE]
  kernel_rfl
 iterate 4 refine dA ?_
 refine cA (fun W' hC=>H_c3.out W' (hW.trans (hC.1.of_priv hW.size))) ?_
 clear hW hL b1 b2 b3 b4
 rintro W8 hW z9 hL
 simp only[ndR]
 intros
 simp only[ndS]
 obtain⟨⟨b1,yb1,k1,f1⟩,⟨b2,yb2,k2,f2⟩,⟨b3,yb3,k3,f3⟩,⟨b4,yb4,k4,f4⟩,-⟩:=hL
 go_wp2
 refine bodyPost_ret (by simp[results,Tryz.results188,go_sem,k1,f1,k2,f2,k3,f3,k4,f4,yb1,yb2,yb3,yb4]) rfl ⟨rfl,by exact Aa⟩
end Go.Proofs.YtidfcoooccblaaaGreat
namespace Go.Proofs.YtidfcoooccblaaaGreat
open Go.RowKit
theorem of_no (K A R n d E:Int) (p q:Option Addr) (len cap m vc:Nat) (w:World) (ga gb:Nat)
  (c1:∀W,Below w.heap.size w W->Cb 150 #[.agg #[.int .i64 K,.slice p len cap,.int .i64 A,.int .i64 R,.int .i64 n,.int .i64 d,.slice q m vc,.int .i64 E]] W (.bool false)):
  Cb 187 #[.agg #[.int .i64 K,.slice p len cap,.int .i64 A,.int .i64 R,.int .i64 n,.int .i64 d,.slice q m vc,.int .i64 E],.func (.func 188) #[] #[.pointer (some ⟨ga,0,none⟩),.pointer (some ⟨gb,0,none⟩)]] w (.tuple #[.agg #[.int .i64 0,.int .i64 0,.int .i64 0,.int .i64 0,.int .u64 0],.int .i64 210]):=by
 have H_c1:=Hd c1
 clear c1
 go_enter Tryz.func187,Tryz.ntmps187
 go_upto_region 1 with(fail)
 refine Ad w (Bc w.heap.size #[.int .i64 K,.slice p len cap,.int .i64 A,.int .i64 R,.int .i64 n,.int .i64 d,.slice q m vc,.int .i64 E] 98<|Bc (w.heap.size+1) #[.int .i64 0,.int .i64 0,.int .i64 0,.int .i64 0,.int .u64 0] 196<|Bz) ?_
 rintro W1 hW z2 ⟨⟨b1,yb1,k1,f1⟩,⟨b2,yb2,k2,f2⟩,-⟩
 go_wp2_with fail
 refine(H_c1.out _ (Aa)).mono ?_
 rintro e w3 ⟨rfl,hb3⟩
 have z4:=hb3.size
 try simp at z4
 clear k1 f1 k2 f2
 refine Ae w w3 (Bc w.heap.size #[.int .i64 K,.slice p len cap,.int .i64 A,.int .i64 R,.int .i64 n,.int .i64 d,.slice q m vc,.int .i64 E] 98<|Bc (w.heap.size+1) #[.int .i64 0,.int .i64 0,.int .i64 0,.int .i64 0,.int .u64 0] 196<|Bc W1.heap.size #[.int .i64 0,.int .i64 0,.int .i64 0,.int .i64 0,.int .u64 0] 196<|Bz) ?_
 clear b1 b2 hW
 rintro hW z5 ⟨⟨b1,yb1,k1,f1⟩,⟨b2,yb2,k2,f2⟩,⟨b3,yb3,k3,f3⟩,-⟩
 clear hb3
 go_wp2
 refine bodyPost_ret (by simp[results,Tryz.results187,go_sem,k1,f1,k2,f2,k3,f3,yb1,yb2,yb3]) rfl ⟨rfl,by exact Aa⟩
theorem of_yes (K A R n d E:Int) (p q:Option Addr) (len cap m vc:Nat) (w:World) (ga gb:Nat) (c0 c1' c2' c3' c4' er:Int)
  (c1:∀W,Below w.heap.size w W->Cb 150 #[.agg #[.int .i64 K,.slice p len cap,.int .i64 A,.int .i64 R,.int .i64 n,.int .i64 d,.slice q m vc,.int .i64 E]] W (.bool true))
  (c3:∀W,Below w.heap.size w W->Cb 188 #[.agg #[.int .i64 K,.slice p len cap,.int .i64 A,.int .i64 R,.int .i64 n,.int .i64 d,.slice q m vc,.int .i64 E],.pointer (some ⟨ga,0,none⟩),.pointer (some ⟨gb,0,none⟩)] W (.tuple #[.agg #[.int .i64 c0,.int .i64 c1',.int .i64 c2',.int .i64 c3',.int .u64 c4'],.int .i64 er])):
  Cb 187 #[.agg #[.int .i64 K,.slice p len cap,.int .i64 A,.int .i64 R,.int .i64 n,.int .i64 d,.slice q m vc,.int .i64 E],.func (.func 188) #[] #[.pointer (some ⟨ga,0,none⟩),.pointer (some ⟨gb,0,none⟩)]] w (.tuple #[.agg #[.int .i64 c0,.int .i64 c1',.int .i64 c2',.int .i64 c3',.int .u64 c4'],.int .i64 er]):=by
 have H_c1:=Hd c1
 clear c1
 have H_c3:=Hd c3
 clear c3
 go_enter Tryz.func187,Tryz.ntmps187
 go_upto_region 1 with(fail)
 refine Ad w (Bc w.heap.size #[.int .i64 K,.slice p len cap,.int .i64 A,.int .i64 R,.int .i64 n,.int .i64 d,.slice q m vc,.int .i64 E] 98<|Bc (w.heap.size+1) #[.int .i64 0,.int .i64 0,.int .i64 0,.int .i64 0,.int .u64 0] 196<|Bz) ?_
 rintro W1 hW z2 ⟨⟨b1,yb1,k1,f1⟩,⟨b2,yb2,k2,f2⟩,-⟩
 go_wp2_with fail
 refine(H_c1.out _ (Aa)).mono ?_
 rintro e w3 ⟨rfl,hb3⟩
 have z4:=hb3.size
 try simp at z4
 clear k1 f1 k2 f2
 refine Ae w w3 (Bc w.heap.size #[.int .i64 K,.slice p len cap,.int .i64 A,.int .i64 R,.int .i64 n,.int .i64 d,.slice q m vc,.int .i64 E] 98<|Bc (w.heap.size+1) #[.int .i64 0,.int .i64 0,.int .i64 0,.int .i64 0,.int .u64 0] 196<|Bc W1.heap.size #[.int .i64 0,.int .i64 0,.int .i64 0,.int .i64 0,.int .u64 0] 196<|Bz) ?_
 clear b1 b2 hW
 rintro hW z5 ⟨⟨b1,yb1,k1,f1⟩,⟨b2,yb2,k2,f2⟩,⟨b3,yb3,k3,f3⟩,-⟩
 clear hb3
 go_wp2_with fail
 refine(H_c3.out _ (Aa)).mono ?_
 rintro e w6 ⟨rfl,hb6⟩
 have z7:=hb6.size
 try simp at z7
 clear k1 f1 k2 f2 k3 f3
 refine Ae w w6 (Bc w.heap.size #[.int .i64 K,.slice p len cap,.int .i64 A,.int .i64 R,.int .i64 n,.int .i64 d,.slice q m vc,.int .i64 E] 98<|Bc (w.heap.size+1) #[.int .i64 0,.int .i64 0,.int .i64 0,.int .i64 0,.int .u64 0] 196<|Bc W1.heap.size #[.int .i64 0,.int .i64 0,.int .i64 0,.int .i64 0,.int .u64 0] 196<|Bz) ?_
 clear b1 b2 b3 hW
 rintro hW z8 ⟨⟨b1,yb1,k1,f1⟩,⟨b2,yb2,k2,f2⟩,⟨b3,yb3,k3,f3⟩,-⟩
 clear hb6
 go_wp2
 refine bodyPost_ret (by simp[results,Tryz.results187,go_sem,k1,f1,k2,f2,k3,f3,yb1,yb2,yb3]) rfl ⟨rfl,by exact Aa⟩
theorem part_w (K A R n d E:Int) (p q:Option Addr) (len cap m vc:Nat) (w:World) (a b:Int) (c0 c1' c2' c3' c4' er:Int)
  (c1:∀W ga gb,Below w.heap.size w W->Blk W ga #[.int .i64 a] 2->Blk W gb #[.int .i64 b] 2->Cb 187 #[.agg #[.int .i64 K,.slice p len cap,.int .i64 A,.int .i64 R,.int .i64 n,.int .i64 d,.slice q m vc,.int .i64 E],.func (.func 188) #[] #[.pointer (some ⟨ga,0,none⟩),.pointer (some ⟨gb,0,none⟩)]] W (.tuple #[.agg #[.int .i64 c0,.int .i64 c1',.int .i64 c2',.int .i64 c3',.int .u64 c4'],.int .i64 er])):
  Cb 160 #[.agg #[.int .i64 K,.slice p len cap,.int .i64 A,.int .i64 R,.int .i64 n,.int .i64 d,.slice q m vc,.int .i64 E],.int .i64 a,.int .i64 b] w (.tuple #[.agg #[.int .i64 c0,.int .i64 c1',.int .i64 c2',.int .i64 c3',.int .u64 c4'],.int .i64 er]):=by
 have hmf:∀(fn:Fn) (first cap:Array Value) (w:World),(Instr.makeFunc fn first cap).run Tryz.prog w= .ok (.func fn first cap) w:=fun _ _ _ _=>rfl
 have H_c1:=Hd c1
 clear c1
 go_enter Tryz.func160,Tryz.ntmps160
 go_upto_region 1 with(fail)
 refine Ad w (Bc w.heap.size #[.int .i64 K,.slice p len cap,.int .i64 A,.int .i64 R,.int .i64 n,.int .i64 d,.slice q m vc,.int .i64 E] 98<|Bc (w.heap.size+1) #[.int .i64 a] 2<|Bc (w.heap.size+1+1) #[.int .i64 b] 2<|Bc (w.heap.size+1+1+1) #[.int .i64 0,.int .i64 0,.int .i64 0,.int .i64 0,.int .u64 0] 196<|Bz) ?_
 rintro W1 hW z2 ⟨⟨b1,yb1,k1,f1⟩,⟨b2,yb2,k2,f2⟩,⟨b3,yb3,k3,f3⟩,⟨b4,yb4,k4,f4⟩,-⟩
 go_wp2_with fail
 refine(H_c1.out _ _ _ (Aa) (A3) (A3)).mono ?_
 rintro e w3 ⟨rfl,hb3⟩
 have z4:=hb3.size
 try simp at z4
 clear k1 f1 k2 f2 k3 f3 k4 f4
 refine Ae w w3 (Bc w.heap.size #[.int .i64 K,.slice p len cap,.int .i64 A,.int .i64 R,.int .i64 n,.int .i64 d,.slice q m vc,.int .i64 E] 98<|Bc (w.heap.size+1) #[.int .i64 a] 2<|Bc (w.heap.size+1+1) #[.int .i64 b] 2<|Bc (w.heap.size+1+1+1) #[.int .i64 0,.int .i64 0,.int .i64 0,.int .i64 0,.int .u64 0] 196<|Bz) ?_
 clear b1 b2 b3 b4 hW
 rintro hW z5 ⟨⟨b1,yb1,k1,f1⟩,⟨b2,yb2,k2,f2⟩,⟨b3,yb3,k3,f3⟩,⟨b4,yb4,k4,f4⟩,-⟩
 clear hb3
 go_wp2
 refine bodyPost_ret (by simp[results,Tryz.results160,go_sem,k1,f1,k2,f2,k3,f3,k4,f4,yb1,yb2,yb3,yb4]) rfl ⟨rfl,by exact Aa⟩
def Ez (s:A4) (a b:Int):Array Value×Int:=
 if C1 s then
  if Jt s.runs a<Kk s.runs a b then (Nn (slice (Fc s) (Jt s.runs a).toNat (Kk s.runs a b).toNat),0)
  else (#[.int .i64 0,.int .i64 0,.int .i64 0,.int .i64 0,.int .u64 0],9)
 else (#[.int .i64 0,.int .i64 0,.int .i64 0,.int .i64 0,.int .u64 0],210)
theorem Ug {l:List Ah} (hl:Ce l) (a b:Int):0<=Jt l a/\Kk l a b<=cnt l/\Jt l a<=cnt l:=by
 obtain⟨i0,i1,_⟩:=Lj l a hl.each hl.chain
 obtain⟨j0,j1,_⟩:=Lj l (b+1) hl.each hl.chain
 unfold Jt Kk
 refine⟨i0,?_,i1⟩
 split
 ·omega
 ·split<;>omega
theorem By {s:A4} (h:C1 s=true):Ce s.runs:=by
 unfold C1 at h
 rw[Bool.and_eq_true] at h
 exact(D1 _).1 h.1
theorem Oo {s:A4} (h:C1 s=true):K8 s=true:=by
 unfold C1 at h
 simp only[Bool.and_eq_true] at h
 exact h.2.2
theorem Mv {s:A4} (hl:Ce s.runs) (h:Hs s=true):Ke s:=by
 unfold Hs at h
 simp only[Bool.and_eq_true] at h
 exact⟨hl,Jo.1 h.1.1,h.1.2⟩
theorem Mq {s:A4} (h:C1 s=true):(s.K=1∨s.K=2∨s.K=3)/\Ke s∨s.K=4/\(s.raw.length:Int)=cnt s.runs/\s.raw.all A6=true:=by
 have hl:=By h
 have hk:=Oo h
 unfold K8 at hk
 split at hk
 ·simp only[Bool.and_eq_true] at hk
  exact .inl ⟨by omega,Mv hl hk.2⟩
 ·split at hk
  ·simp only[Bool.and_eq_true] at hk
   exact .inl ⟨by omega,Mv hl hk.2.2⟩
  ·split at hk
   ·simp only[Bool.and_eq_true] at hk
    exact .inl ⟨by omega,Mv hl hk.2⟩
   ·split at hk
    ·simp only[Bool.and_eq_true,beq_iff_eq] at hk
     exact .inr ⟨by omega,hk.1.2,hk.2⟩
    ·cases hk
theorem c_part1 (s:A4) (p q:Option Addr) (cap vc:Nat) (ga gb:Nat) (a b:Int) (w:World) (h:C7 w s p q) (hvc:s.raw.length<=vc) (hs:C1 s=true) (hb: -9223372036854775808<=b) (hga:Blk w ga #[.int .i64 a] 2) (hgb:Blk w gb #[.int .i64 b] 2):
  Cb 188 #[.agg (Dh s p q cap vc),.pointer (some ⟨ga,0,none⟩),.pointer (some ⟨gb,0,none⟩)] w (.tuple #[.agg (Ez s a b).1,.int .i64 (Ez s a b).2]):=by
 have hl:=By hs
 have hclip:=fun W (hW:Below w.heap.size w W)=>clip_w p cap s.runs a b W hl (h.runs.below hW) hb
 obtain⟨b0,b1,b2⟩:=Ug hl a b
 have hcnt:=D6 hl
 unfold Ez
 rw[if_pos hs]
 by_cases hij:Jt s.runs a<Kk s.runs a b
 ·rw[if_pos hij]
  rcases Mq hs with⟨hk,hline⟩|⟨hk,hn,hback⟩
  ·have key:=fun W (hW:Below w.heap.size w W)=>Zj s p q cap vc _ _ W (h.below hW) hline (by omega) b0 hij b1
   unfold Dh at key⊢
   rcases hk with e|e|e
   ·rw[e] at key⊢
    exact part1_1 0 _ _ _ _ _ p q _ cap _ vc w ga gb a b _ _ _ _ _ _ _ hga hgb hij hclip key
   ·rw[e] at key⊢
    exact part1_2 0 _ _ _ _ _ p q _ cap _ vc w ga gb a b _ _ _ _ _ _ _ hga hgb hij hclip key
   ·rw[e] at key⊢
    exact part1_3 0 _ _ _ _ _ p q _ cap _ vc w ga gb a b _ _ _ _ _ _ _ hga hgb hij hclip key
  ·have key:=fun W (hW:Below w.heap.size w W)=>c_rawPart s p q cap vc _ _ W (h.below hW) hvc hback (by omega) hk b0 hij (by omega)
   unfold Dh at key⊢
   rw[hk] at key⊢
   exact part1_4 0 _ _ _ _ _ p q _ cap _ vc w ga gb a b _ _ _ _ _ _ _ hga hgb hij hclip key
 ·rw[if_neg hij]
  exact Yg _ _ _ _ _ _ p q _ cap _ vc w ga gb a b _ _ 0 0 0 0 0 hga hgb hij hclip
theorem c_Part (s:A4) (p q:Option Addr) (cap vc:Nat) (a b:Int) (w:World) (h:C7 w s p q) (hvc:s.raw.length<=vc) (hb: -9223372036854775808<=b):
  Cb 160 #[.agg (Dh s p q cap vc),.int .i64 a,.int .i64 b] w (.tuple #[.agg (Ez s a b).1,.int .i64 (Ez s a b).2]):=by
 obtain⟨c0,c1,c2,c3,c4,hp⟩:∃c0 c1 c2 c3 c4:Int,(Ez s a b).1= #[.int .i64 c0,.int .i64 c1,.int .i64 c2,.int .i64 c3,.int .u64 c4]:=by
  unfold Ez Nn
  split
  ·split
   ·exact⟨_,_,_,_,_,rfl⟩
   ·exact⟨_,_,_,_,_,rfl⟩
  ·exact⟨_,_,_,_,_,rfl⟩
 rw[hp]
 refine part_w _ _ _ _ _ _ p q _ cap _ vc w a b c0 c1 c2 c3 c4 _ fun W ga gb hW hga hgb=> ?_
 cases hs:C1 s with
 |false=>
  have e1:(Ez s a b).2=210:=by unfold Ez;rw[hs];rfl
  have e2:(Ez s a b).1= #[.int .i64 0,.int .i64 0,.int .i64 0,.int .i64 0,.int .u64 0]:=by unfold Ez;rw[hs];rfl
  rw[e1,<-hp,e2]
  have hi:=fun W' (hW':Below W.heap.size W W')=>P7 s p q cap vc W' ((h.below hW).below hW')
  rw[hs] at hi
  exact of_no _ _ _ _ _ _ p q _ cap _ vc W ga gb hi
 |true=>
  have hi:=fun W' (hW':Below W.heap.size W W')=>P7 s p q cap vc W' ((h.below hW).below hW')
  rw[hs] at hi
  have hc:=fun W' (hW':Below W.heap.size W W')=>c_part1 s p q cap vc ga gb a b W' ((h.below hW).below hW') hvc hs hb (hga.below hW') (hgb.below hW')
  rw[hp] at hc
  exact of_yes _ _ _ _ _ _ p q _ cap _ vc W ga gb _ _ _ _ _ _ hi hc
def valI (s:A4) (i:Int):Int:=((Fc s)[i.toNat]?).getD 0
theorem Ht {s:A4} (h:C1 s=true):((Fc s).length:Int)=cnt s.runs:=by
 have hl:=By h
 unfold Fc
 rcases Mq h with⟨hk,_⟩|⟨hk,hn,_⟩
 ·rw[if_neg (by omega),List.length_map,B7 hl]
 ·rw[if_pos hk,hn]
def segAtV (s:A4) (t:Int):Int:=if C1 s then ((findL s.runs t).map (valI s)).getD 0 else 0
def segAtE (s:A4) (t:Int):Int:=if C1 s then (if (findL s.runs t).isSome then 0 else 4) else 210
def Zw (w:World) (p:Option Addr) (l:List Ah) (e:Ending) (w':World):Prop:=∃p' cap',e= .returned (.slice p' l.length cap')/\Below w.heap.size w w'/\Ai w' p' l/\l.length<=cap'/\∀a,p'=some a->w.heap.size<=a.block
def Zx (w:World) (p:Option Addr) (l:List Int) (e:Ending) (w':World):Prop:=∃p' cap',e= .returned (.slice p' l.length cap')/\Below w.heap.size w w'/\Au w' p' l/\l.length<=cap'/\∀a,p'=some a->w.heap.size<=a.block
theorem Hy {w w':World} {o:Obj} {n c:Nat} (h:(w.alloc o).grownBy w' (Value.slice (some ⟨w.heap.size,0,none⟩) n c).ownBlock):Below w.heap.size w w':=
 ⟨h.os,h.tape,h.output,by have:=h.size;simp at this;omega,fun k hk=>by
  rw[h.block k (by simp;omega) (by simp[Value.ownBlock];omega)]
  exact Below.heap_alloc w o k hk⟩
theorem ints_flat {w:World} {a:Addr} {l:List Int} (h:Au w (some a) l) (j:Nat) (u:Value) (hu:(l.map (Value.int .i64))[j]? =some u):w.cell? (a.add j)=some u:=by
 simp only[List.getElem?_map,Option.map_eq_some_iff] at hu
 obtain⟨x,hx,rfl⟩:=hu
 obtain⟨b,o,e,hc⟩:=h.at' j x hx
 simp at e
 subst e
 have hadd:(⟨b,o,none⟩:Addr).add j=⟨b,o+j,none⟩:=by unfold Addr.add;split<;>simp_all
 rw[hadd];exact hc
theorem Gm {cur:Array Value} {xs:List Value} {k:Nat} (h:cur.toList.take k=xs) {j:Nat} {u:Value} (hu:xs[j]? =some u):cur[j]? =some u:=by
 rw[<-h,List.getElem?_take] at hu
 split at hu
 ·simpa using hu
 ·cases hu
theorem Pn {w:World} {g k:Nat} {t:TypeId} {cur:Array Value} {l:List Ah} (hb:w.heap[g]? =some (.cells cur t (0,0))) (ht:cur.toList.take k=As l):Ai w (some ⟨g,0,none⟩) l:=⟨fun i r hr=>by
 obtain⟨a,b,c⟩:=Ny l i r hr
 have k:∀z,w.cell? ⟨g,z,none⟩=cur[z]? :=fun z=>cell_of_row w g z cur t (0,0) hb
 refine⟨g,0,rfl,?_,?_,?_⟩
 ·rw[k,Nat.zero_add];exact Gm ht a
 ·rw[k,Nat.zero_add];exact Gm ht b
 ·rw[k,Nat.zero_add];exact Gm ht c⟩
theorem Lc {w:World} {g k:Nat} {t:TypeId} {cur:Array Value} {l:List Int} (hb:w.heap[g]? =some (.cells cur t (0,0))) (ht:cur.toList.take k=l.map (Value.int .i64)):Au w (some ⟨g,0,none⟩) l:=⟨fun i x hx=>by
 refine⟨g,0,rfl,?_⟩
 rw[cell_of_row w g _ cur t (0,0) hb,Nat.zero_add]
 exact Gm ht (by simp[hx])⟩
theorem Ue (w:World):Calls Tryz.prog 75 #[.slice none 0 0] w (Zw w none []):=by
 go_enter Tryz.func75,Tryz.ntmps75
 have hnil:∀W,(binOp .eql 93 (.slice none 0 0) (.slice none 0 0)).run Tryz.prog W= .ok (.bool true) W:=fun W=>by kernel_rfl
 go_wp2
 go_ret
 exact⟨none,0,rfl,Aa,⟨fun i r hr=>by simp at hr⟩,by simp,fun a h=>by cases h⟩
theorem Rq (a:Addr) (cap:Nat) (l:List Ah) (w:World) (hl:l.length<=300) (h:Ai w (some a) l):Calls Tryz.prog 75 #[.slice (some a) l.length cap] w (Zw w (some a) l):=by
 have hnil:∀W,(binOp .eql 93 (.slice (some a) l.length cap) (.slice none 0 0)).run Tryz.prog W= .ok (.bool false) W:=fun W=>Lib.run_eql_slice_nil W 93 144 _ _ _ _ _ (by kernel_rfl)
 go_enter Tryz.func75,Tryz.ntmps75
 go_upto_region 3 with(fail)
 clear hnil
 have hmk:∀W,(Instr.buildSlice 93 0 #[]).run Tryz.prog W= .ok (.slice (some ⟨W.heap.size,0,none⟩) 0 0) (W.alloc (.cells #[] 144)):=fun W=>by kernel_rfl
 obtain⟨i,hi,hz0,hz1,hz2⟩:=info_parts Tryz.infoRun
 have hW:Below w.heap.size w (w.alloc (.cells #[] 144)):=Aa
 have hown0:=World.ownsRow_made (e:=144) (size:=3) (base:=w.heap.size) w #[] 0 (Nat.le_refl _) (by simp[maxLen]) (by simp)
 go_wp2_with (at_builtin;refine wpList_append_own _ rfl (.tmp 5) (.tmp 6) 93 rfl w.heap.size 144 i _ 3 24 (by kernel_rfl) hi hz0 hz1 hz2 rfl (by omega) _ 0 [] rfl hown0 a l.length cap (As l) rfl (by rw[Ds]) ((h.below hW).flat) (fun v hv=>by obtain⟨x,rfl⟩:=Q4 l v hv;rfl) (by simp[maxLen];omega) (by omega) (by simp) ?_)
 intro v' w' hown hgr _
 have hB:=Hd (Hy hgr)
 replace hown:=Hd hown
 clear hgr
 go_wp2
 go_ret
 obtain⟨_,h2|⟨g,cap',cur,rfl,hg,hb,hn,_,hc,ht⟩⟩:=hown.out
 ·obtain⟨rfl,h0⟩:=h2
  have h0':l.length=0:=by omega
  exact⟨none,0,by rw[h0'];rfl,hB.out,⟨fun i r hr=>by rw[List.getElem?_eq_none_iff.2 (by omega)] at hr;cases hr⟩,by omega,fun a h=>by cases h⟩
 ·exact⟨some ⟨g,0,none⟩,cap',by simp,hB.out,Pn hb (by simpa using ht),by omega,fun a h=>by cases h;exact hg⟩
theorem Uf (w:World):Calls Tryz.prog 76 #[.slice none 0 0] w (Zx w none []):=by
 go_enter Tryz.func76,Tryz.ntmps76
 have hnil:∀W,(binOp .eql 96 (.slice none 0 0) (.slice none 0 0)).run Tryz.prog W= .ok (.bool true) W:=fun W=>by kernel_rfl
 go_wp2
 go_ret
 exact⟨none,0,rfl,Aa,⟨fun i r hr=>by simp at hr⟩,by simp,fun a h=>by cases h⟩
theorem Rr (a:Addr) (cap:Nat) (l:List Int) (w:World) (hl:l.length<=300) (h:Au w (some a) l):Calls Tryz.prog 76 #[.slice (some a) l.length cap] w (Zx w (some a) l):=by
 have hnil:∀W,(binOp .eql 96 (.slice (some a) l.length cap) (.slice none 0 0)).run Tryz.prog W= .ok (.bool false) W:=fun W=>Lib.run_eql_slice_nil W 96 2 _ _ _ _ _ (by kernel_rfl)
 go_enter Tryz.func76,Tryz.ntmps76
 go_upto_region 3 with(fail)
 clear hnil
 have hmk:∀W,(Instr.buildSlice 96 0 #[]).run Tryz.prog W= .ok (.slice (some ⟨W.heap.size,0,none⟩) 0 0) (W.alloc (.cells #[] 2)):=fun W=>by kernel_rfl
 obtain⟨i,hi,hz0,hz1,hz2⟩:=info_parts Tryz.infoInt
 have hW:Below w.heap.size w (w.alloc (.cells #[] 2)):=Aa
 have hown0:=World.ownsRow_made (e:=2) (size:=1) (base:=w.heap.size) w #[] 0 (Nat.le_refl _) (by simp[maxLen]) (by simp)
 go_wp2_with (at_builtin;refine wpList_append_own _ rfl (.tmp 5) (.tmp 6) 96 rfl w.heap.size 2 i _ 1 8 (by kernel_rfl) hi hz0 hz1 hz2 rfl (by omega) _ 0 [] rfl hown0 a l.length cap (l.map (Value.int .i64)) rfl (by simp) (fun j u hu=>ints_flat (h.below hW) j u hu) (fun v hv=>by simp only[List.mem_map] at hv;obtain⟨x,_,rfl⟩:=hv;rfl) (by simp[maxLen];omega) (by omega) (by simp) ?_)
 intro v' w' hown hgr _
 have hB:=Hd (Hy hgr)
 replace hown:=Hd hown
 clear hgr
 go_wp2
 go_ret
 obtain⟨_,h2|⟨g,cap',cur,rfl,hg,hb,hn,_,hc,ht⟩⟩:=hown.out
 ·obtain⟨rfl,h0⟩:=h2
  have h0':l.length=0:=by omega
  exact⟨none,0,by rw[h0'];rfl,hB.out,⟨fun i r hr=>by rw[List.getElem?_eq_none_iff.2 (by omega)] at hr;cases hr⟩,by omega,fun a h=>by cases h⟩
 ·exact⟨some ⟨g,0,none⟩,cap',by simp,hB.out,Lc hb (by simpa using ht),by omega,fun a h=>by cases h;exact hg⟩
def kindL (A R n d:Int):Int:=if Cw A R n d=true then (if n=0 then 1 else if R=0 then 2 else 3) else 0
theorem Ai.set' {w:World} {p:Option Addr} {o i:Nat} {v:Value} {l:List Ah} (h:Ai w p l) (hne:∀a,p=some a->a.block≠o):Ai (w.setCell ⟨o,i,none⟩ v) p l:=⟨fun k r hr=>by
 obtain⟨b,y,e,h1,h2,h3⟩:=h.at' k r hr
 have hc:∀z,(w.setCell ⟨o,i,none⟩ v).cell? ⟨b,z,none⟩=w.cell? ⟨b,z,none⟩:=by
  intro z
  have:=heap_setCell_other w ⟨o,i,none⟩ b v (hne _ e)
  simp only[World.cell?,this]
 exact⟨b,y,e,(hc _).trans h1,(hc _).trans h2,(hc _).trans h3⟩⟩
theorem Au.set' {w:World} {p:Option Addr} {o i:Nat} {v:Value} {l:List Int} (h:Au w p l) (hne:∀a,p=some a->a.block≠o):Au (w.setCell ⟨o,i,none⟩ v) p l:=⟨fun k r hr=>by
 obtain⟨b,y,e,h1⟩:=h.at' k r hr
 have hc:∀z,(w.setCell ⟨o,i,none⟩ v).cell? ⟨b,z,none⟩=w.cell? ⟨b,z,none⟩:=by
  intro z
  have:=heap_setCell_other w ⟨o,i,none⟩ b v (hne _ e)
  simp only[World.cell?,this]
 exact⟨b,y,e,(hc _).trans h1⟩⟩
theorem Au.rex {w w':World} {p:Option Addr} {l:List Int} (h:Au w p l) (hr:Rex [] w w'):Au w' p l:=h.below hr.below
def CR (B:Nat) (l:List Ah):Bo:=fun v w=>∃p' cap',v= .slice p' l.length cap'/\Ai w p' l/\l.length<=cap'/\∀a,p'=some a->B<=a.block
def CI (B:Nat) (l:List Int):Bo:=fun v w=>∃p' cap',v= .slice p' l.length cap'/\Au w p' l/\l.length<=cap'/\∀a,p'=some a->B<=a.block
theorem CR.closed (B:Nat) (l:List Ah):Bj [] (CR B l):=fun _ _ _ hr ⟨p',c',e,h,k⟩=>⟨p',c',e,h.rex hr rfl,k⟩
theorem CI.closed (B:Nat) (l:List Int):Bj [] (CI B l):=fun _ _ _ hr ⟨p',c',e,h,k⟩=>⟨p',c',e,h.rex hr,k⟩
theorem Ai.new {w w':World} {p:Option Addr} {l:List Ah} (h:Ai w p l) (o i:Nat) (v:Value) (hne:∀a,p=some a->a.block≠o):Ai (w.setCell ⟨o,i,none⟩ v) p l:=h.set' hne
section
variable {P:Program} {ops:Array Oper} {C:World->Prop} {X:List (Nat×Nat)} {a0:Act} {Fin:List (Option Tmp×Bo)->Prop} {i:Nat} {o:Oper} {rest:List Oper} {acc:List (Option Tmp×Bo)}
theorem D5 (Φ:Bo) (hcl:Bj (Bl X i) Φ) (hg:o.guard=none) (hal:Az o=false)
  (h:∀(a:Act) (w:World),C w->(∀s∈o.looksAt ops,Aj a0 acc s (a.tmps.getD s undef) w)->∃v,(execOp a.eval o).run P w= .ok (.value v) w/\Φ v w)
  (hr:Aq P ops C X a0 Fin (i+1) rest ((o.dst,Φ)::acc)):Aq P ops C X a0 Fin i (o::rest) acc:=
 ⟨Φ,hcl,fun a w hC hE=>⟨fun _=>by
  obtain⟨v,h1,h2⟩:=h a w hC hE
  rw[h1];exact⟨Rex.refl _ _,h2,fun e=>by rw[hal] at e;cases e⟩,fun e=>by rw[Ei hg] at e;cases e⟩,hr⟩
end
def SV (K A R n d E:Int) (B:Nat) (l:List Ah):Bo:=fun v w=>∃p1 cap1 q1 vc1,v= .agg #[K,.slice p1 l.length cap1,A,R,n,d,.slice q1 0 vc1,E]/\Ai w p1 l/\l.length<=cap1/\∀a,p1=some a->B<=a.block
def TV (K A R n d E:Int) (B:Nat) (l:List Ah):Bo:=fun v w=>∃p1 cap1 q1 vc1,v= .tuple #[.agg #[K,.slice p1 l.length cap1,A,R,n,d,.slice q1 0 vc1,E],.int .i64 0]/\Ai w p1 l/\l.length<=cap1/\∀a,p1=some a->B<=a.block
theorem SV.closed (K A R n d E:Int) (B:Nat) (l:List Ah):Bj [] (SV K A R n d E B l):=fun _ _ _ hr ⟨p',c',q',v',e,h,k⟩=>⟨p',c',q',v',e,h.rex hr rfl,k⟩
theorem TV.closed (K A R n d E:Int) (B:Nat) (l:List Ah):Bj [] (TV K A R n d E B l):=fun _ _ _ hr ⟨p',c',q',v',e,h,k⟩=>⟨p',c',q',v',e,h.rex hr rfl,k⟩
def outOf (s:A4) (i j:Int):Array Value×Int:=if i<j then (Nn (slice (Fc s) i.toNat j.toNat),0) else (#[.int .i64 0,.int .i64 0,.int .i64 0,.int .i64 0,.int .u64 0],9)
theorem slice_ne {l:List Int} {i j:Nat} (h:i<j) (hj:j<=l.length):slice l i j≠ []:=by
 intro e
 have:=G3 (l:=l) (i:=i) hj
 rw[e] at this
 simp at this
 omega
theorem vals_back {s:A4} (hs:C1 s=true) {v:Int} (hv:v∈Fc s): -2305844108725321728<=v/\v<=2305844108725321728:=by
 unfold Fc at hv
 rcases Mq hs with⟨hk,hline⟩|⟨hk,_,hback⟩
 ·rw[if_neg (by omega)] at hv
  simp only[List.mem_map] at hv
  obtain⟨t,ht,rfl⟩:=hv
  have:=Fu hline.runs ht
  exact Fo.1 (hline.back this.1 this.2.1)
 ·rw[if_pos hk] at hv
  exact Nl hback hv
end Go.Proofs.YtidfcoooccblaaaGreat
namespace Go.Proofs.YtidfcoooccblaaaGreat
open Go.RowKit Go.Shelf
attribute [local go_sem] Oper.semAt_some
theorem Mj {P:Program} {n:Nat} {c:Code} {Q:Exit->Act->World->Prop} {a:Act} {w:World} (h:c.wpIn Fence.wide n P (Exit.noGoto Q) a w):(Code.scope c).wpIn Fence.wide n P Q a w:=wpIn_wide.2 (wp_scope_straight (wpIn_wide.1 h))
theorem Ux {F:Fence} {P:Program} {n l:Nat} {c:Code} {Q:Exit->Act->World->Prop} {a:Act} {w:World} (h:c.wpIn F n P Q a w):((Code.label l).seq c).wpIn F n P Q a w:=wpIn_seq (wpIn_label h)
def Fp (t:TypeId) (A B:World):Prop:=∀(b:Nat) (cs:Array Value) (f:Nat×Nat),A.heap[b]? =some (.cells cs t f)->B.heap[b]? =some (.cells cs t f)
theorem Fp.refl (t:TypeId) (A:World):Fp t A A:=fun _ _ _ h=>h
theorem Fp.trans {t:TypeId} {A B C:World} (h:Fp t A B) (k:Fp t B C):Fp t A C:=fun b cs f hb=>k b cs f (h b cs f hb)
theorem Mm {l:List Ah} {k:Nat} {r:Ah} (hr:l[k]? =some r):Af (l.take (k+1))=Af (l.take k)++B9 r:=by
 rw[List.take_add_one,hr,Dn]
 simp[Af]
theorem Pa {r:Ah} {j:Nat} (h:(j:Int)<r.c):(B9 r).take (j+1)=(B9 r).take j++ [r.f+r.s*(j:Int)]:=by
 rw[List.take_add_one,Fq r j h]
 rfl
theorem Xq {l:List Ah} {k j:Nat} {r:Ah} (hr:l[k]? =some r) (h:(j:Int)<r.c):(Af (l.take k)++(B9 r).take j).length<(Af l).length:=by
 have e:Af l=Af (l.take (k+1))++Af (l.drop (k+1)):=by rw[<-Dn,List.take_append_drop]
 rw[e,Mm hr]
 have:=Ct r
 simp
 omega
theorem times_pre {l:List Ah} {k j:Nat} {r:Ah} (hr:l[k]? =some r):Af (l.take k)++(B9 r).take j<+:Af l:=by
 have e:Af l=Af (l.take (k+1))++Af (l.drop (k+1)):=by rw[<-Dn,List.take_append_drop]
 rw[e,Mm hr]
 exact⟨(B9 r).drop j++Af (l.drop (k+1)),by rw[List.append_assoc,<-List.append_assoc (List.take j _),List.take_append_drop,List.append_assoc]⟩
theorem all1_in (n:Nat) (hn:1<=n) (lr Bs n₀:Nat) (p:Option Addr) (cap:Nat) (l:List Ah) (hl:∀r,r∈l->Fb r) (hlen:l.length<=256) (Kp:World->World->Prop) (hK:∀ {A B},Kp A B->Below n₀ A B/\Fp 144 A B)
  (J Jx:List Int->World->Prop) (B0:Nat) (hJ:AbidesFrom B0 J)
  (hY:∀pre x W,J pre W->pre.length<(Af l).length->YieldAt Fence.wide (n-1) Tryz.prog lr #[.int .i64 x] W fun e W'=>(e= .returned (.bool true)/\J (pre++ [x]) W'/\Kp W W')∨(e= .returned (.bool false)/\Jx (pre++ [x]) W'))
  (W:World) (hBs:W.cell? ⟨Bs,0,none⟩=some (.slice p l.length cap)) (hR:Ai W p l) (hn₀:∀a,p=some a->a.block<n₀) (hn1:n₀<=W.heap.size) (h0:J [] W):
  CallsIn Fence.wide n Tryz.prog 191 #[.func (.yield lr) #[] #[],.pointer (some ⟨Bs,0,none⟩)] W fun e W'=>(∃v,e= .returned v)/\((∃ys,ys=Af l/\J ys W')∨(∃pre,pre<+:Af l/\Jx pre W')):=by
 refine callsIn_of_wp Tryz.func191 rfl trivial ?_ rfl
 simp only[Tryz.ntmps191,List.size_toArray,List.length_cons,List.length_nil,Nat.reduceAdd,Nat.reduceSub,Array.replicate_succ,Array.replicate_zero,List.push_toArray,List.append_toArray,List.nil_append,List.cons_append]
 refine Mj (Ux ?_)
 gi_wp2
 gi_loopw [8] (fun i wr=>∃k:Nat,k<=l.length/\i= .int .i64 k/\J (Af (l.take k)) wr/\Below n₀ W wr/\W.heap.size<=wr.heap.size) (fun i _=>l.length-(intOf i).toNat)
 case atStart=>exact⟨0,Nat.zero_le _,rfl,h0,Below.refl _ _,Nat.le_refl _⟩
 case round=>
  obtain⟨k,hk,rfl,hJs,hnx,hsz⟩:=hrel
  obtain⟨wo,rfl⟩:∃wo:World,wo=wr:=⟨_,rfl⟩
  rcases Nat.lt_or_ge k l.length with hlt|hge
  ·obtain⟨r,hri⟩:∃r,l[k]? =some r:=⟨l[k]'(by omega),List.getElem?_eq_getElem (by omega)⟩
   have hr:=hl r (List.mem_of_getElem? hri)
   obtain⟨b,o,rfl,k0,k1,k2⟩:=hR.at' k r hri
   have hbl:b<n₀:=hn₀ _ rfl
   have q0:wo.cell? ⟨b,o+k*3,none⟩=some (.int .i64 r.f):=(hnx.cell (p:=⟨b,o+k*3,none⟩) hbl).trans k0
   have q1:wo.cell? ⟨b,o+k*3+1,none⟩=some (.int .i64 r.s):=(hnx.cell (p:=⟨b,o+k*3+1,none⟩) hbl).trans k1
   have q2:wo.cell? ⟨b,o+k*3+2,none⟩=some (.int .i64 r.c):=(hnx.cell (p:=⟨b,o+k*3+2,none⟩) hbl).trans k2
   clear k0 k1 k2
   have r1:=hr.f0;have r2:=hr.f1;have r3:=hr.s0;have r4:=hr.s1;have r5:=hr.c0;have r6:=hr.c1;have r7:=Jn hr;have r8:=hr.last
   gi_wp2
   gi_loopw [14] (fun j wr=>∃m:Nat,(m:Int)<=r.c/\j= .int .i64 m/\J (Af (l.take k)++(B9 r).take m) wr/\Below n₀ W wr/\W.heap.size<=wr.heap.size/\Blk wr wo.heap.size #[.int .i64 r.f,.int .i64 r.s,.int .i64 r.c] 144) (fun j _=>r.c.toNat-(intOf j).toNat)
   case atStart=>exact⟨0,by omega,rfl,by simpa using hJ _ _ _ none hJs (World.grownBy_alloc wo _ none) (fun r e=>by cases e),hnx.alloc (by omega) _,by simp;omega,Blk.new' rfl⟩
   case round=>
    obtain⟨m,hm,rfl,hJm,hnm,hsm,hb⟩:=hrel
    have kb:=hb.cell
    have fb:=hb.frozen
    by_cases hmc:(m:Int)<r.c
    ·have m0:0<=r.s*(m:Int):=Int.mul_nonneg r3 (by omega)
     have m1:r.f+r.s*(m:Int)<=Cs r:=G7 hr (by omega)
     obtain⟨fn,tmps,assign,body,hy,hR'⟩:=hY _ (r.f+r.s*(m:Int)) wr hJm (Xq hri hmc)
     gi_wp2
     refine hR'.mono ?_
     rintro e W3 (⟨rfl,hJ3,hk3⟩|⟨rfl,hJx3⟩)
     ·obtain⟨g1,g2⟩:=hK hk3
      have g3:=g1.size
      gi_wp2
      go_roundw
      case rel=>exact⟨m+1,by omega,by simp,by rw[Pa hmc,<-List.append_assoc];exact hJ3,hnm.trans g1,by omega,g2 _ _ _ hb⟩
      case measure=>simp[intOf];omega
     ·gi_wp2
      simp only[Exit.noGoto]
      refine bodyPost_end (results_none rfl _ _ _) rfl ?_
      exact⟨⟨_,rfl⟩,.inr ⟨_,by rw[List.append_assoc,<-Pa hmc];exact times_pre hri,hJx3⟩⟩
    ·have e:(m:Int)=r.c:=by omega
     have et:(B9 r).take m=B9 r:=List.take_of_length_le (by rw[Ct];omega)
     rw[et,<-Mm hri] at hJm
     gi_wp2
     go_roundw
     case rel=>exact⟨k+1,by omega,by simp,hJm,hnm,hsm⟩
     case measure=>simp[intOf];omega
  ·obtain rfl:k=l.length:=by omega
   rw[List.take_length] at hJs
   gi_wp2
   simp only[Exit.noGoto]
   refine bodyPost_end (results_none rfl _ _ _) rfl ?_
   exact⟨⟨_,rfl⟩,.inl ⟨_,rfl,hJs⟩⟩
theorem Kj {W w1:World} {n₀ B:Nat} {t e T:TypeId} {size:Nat} {v v':Value} {k:Nat} {xs:List Value} {tmp:Obj} (hv:Boxed W B t v) (hrow:W.ownsRow n₀ e size v k xs) (hgrow:(W.alloc tmp).grownBy w1 v.ownBlock) (h1:T≠t) (h2:T≠e):Fp T W (w1.setCell ⟨B,0,none⟩ v'):=by
 intro b cs f hb
 have hlt:=Cv hb
 have e1:b≠B:=by
  rintro rfl
  rw[show W.heap[b]? =_ from hv] at hb
  injection hb with hb
  injection hb with _ h _
  exact h1 h.symm
 rw[Below.heap_setCell w1 ⟨B,0,none⟩ v' b e1]
 rw[hgrow.block b (by simp;omega) ?_,Below.heap_alloc W tmp b hlt]
 ·exact hb
 ·rcases hrow.2 with⟨rfl,_⟩|⟨g,cap,cur,rfl,_,hgb,_⟩
  ·simp[Value.ownBlock]
  ·intro e'
   obtain rfl:b=g:=by simpa [Value.ownBlock] using e'
   rw[hgb] at hb
   injection hb with hb
   injection hb with _ h _
   exact h2 h.symm
theorem Zq (gf:Nat) (lb:Array Value) (xs:List Int) (hlen:xs.length<=1000000) (w w0:World) (hw0:Below w0.heap.size w0 w) (Kp:World->World->Prop) (enters:∀args w,(callFunc gf args).run Tryz.prog w= .ok (.enter gf args) w)
  (hKp:∀ {A B},Below w.heap.size A B->(∀T,T≠96->T≠2->Fp T A B)->Kp A B) (hKt:∀ {A B C},Kp A B->Kp B C->Kp A C) (hKb:∀(W:World) (l:Nat) (o o':Obj),w.heap.size<=l->W.heap[l]? =some o->o.isCells=false->o.isWalk=false->Kp W (W.putObj l o'))
  (hseq:SeqStopsK Fence.wide 2 Tryz.prog gf lb (fun x:Int=> #[Value.int .i64 x]) Kp (fun ys=>ys=xs) (fun pre=>pre<+:xs) xs.length w0):
  CallsIn Fence.wide 3 Tryz.prog 190 #[.slice none 0 0,.func (.func gf) #[] lb] w fun e W'=>∃v,e= .returned v/\W'.ownsRow w.heap.size 2 1 v xs.length (xs.map (Value.int .i64))/\Below w.heap.size w W':=by
 obtain⟨i0,hi,hz0,hz1,hz2⟩:=info_parts Tryz.infoInt
 refine callsIn_of_wp_marks Tryz.func190 rfl trivial ?_ rfl
 simp only[Tryz.ntmps190,List.size_toArray,List.length_cons,List.length_nil,Nat.reduceAdd,Nat.reduceSub,Array.replicate_succ,Array.replicate_zero,List.push_toArray,List.append_toArray,List.nil_append,List.cons_append]
 gi_wp2
 have bO:=Boxed.new w 96 (.slice none 0 0)
 have hB0:Below w.heap.size w (w.alloc (.cells #[.slice none 0 0] 96)):=(Below.refl _ w).alloc (Nat.le_refl _) _
 refine wpIn_rangeFunc_ownG rfl (by omega) (gf:=gf) (lb:=lb) rfl trivial enters hseq hKt (fun W l o o' hl=>hKb W l o o' (by simp at hl;omega)) (hw0.trans (hB0.mono hw0.size)) (fun _=>rfl)
  (fun pre W=>(∃v,Boxed W w.heap.size 96 v/\W.ownsRow w.heap.size 2 1 v pre.length (pre.map (Value.int .i64))/\True)/\Below w.heap.size w W)
  (fun _ _ _=>False)
  (OwnFrom.and (Own.from (holdsRow_own w.heap.size w.heap.size 96 2 1 (fun pre:List Int=>pre.length) (fun pre=>pre.map (Value.int .i64)) (fun _ _=>True)) _) (ownFrom_below (Nat.le_refl _) (by simp)))
  (fun _ _ _ _ _ hs _ _=>hs)
  ⟨⟨_,bO,World.ownsRow_nil _ _ _ _,trivial⟩,hB0⟩
  (fun x=> {tmps:= #[.slice none 0 0,.func (.func gf) #[] lb,.pointer (some ⟨w.heap.size,0,none⟩),undef,.slice none 0 0,x,.func (.func gf) #[] lb,x,undef,undef,undef,undef,undef],defers:= []}) ?assign ?body ?done ?stop
 case assign=>
  intro l x W K hK
  gi_wp2
  exact hK
 case body=>
  rintro l pre x W ⟨⟨v,hv,hrow,_⟩,hB⟩ hlt
  have hc:=hv.cell
  gi_wp2_with (gi_at_builtin;refine wpListIn_append_own _ rfl _ _ 96 rfl w.heap.size 2 i0 (.int .i64 0) 1 8 (by kernel_rfl) hi hz0 hz1 hz2 rfl (by decide) _ _ _ rfl (hrow.alloc _) ⟨W.heap.size,0,none⟩ 1 1 [x] rfl rfl (cell_one_new _ _ _) (by simp[Value.oneCell']) (by simp[maxLen];omega) (by omega) (by have:=hB.size;simp;omega) ?_;intro v' w1 hown' hgrow _;obtain⟨g',cap',rfl⟩:=ownsRow_succ hown';obtain⟨hv1,hv2,hr2,hk2,hb2⟩:=hv.appended (by decide) hrow hB.size (Nat.le_refl _) hown' hgrow;have hkt:=fun T h1 h2=>Kj (v':= .slice (some ⟨g',0,none⟩) (pre.length+1) cap') (T:=T) hv hrow hgrow h1 h2;have hc1:=hv1.cell;have hf1:=hv1.frozen)
  exact⟨hk2.from _,hKp hb2 hkt,⟨_,hv2,by simpa using hr2,trivial⟩,hB.trans hb2⟩
 case done=>
  rintro D ys W hD rfl ⟨⟨v,hv,hrow,_⟩,hB⟩ hK
  have hc:=hv.cell
  gi_wp2
  refine⟨by simp,.inl ⟨_,_,rfl,run_takeDeferred hK,?_⟩⟩
  exact⟨_,results_tmp rfl _ _ _,v,rfl,ownsRow_putObj hrow _ hK rfl,hB.trans (belowK_b (w:=w) (Nat.le_refl _) W D _ _ (by simp at hD;omega) hK rfl rfl)⟩
 case stop=>
  rintro D c pre W _ _ h _
  exact h.elim
end Go.Proofs.YtidfcoooccblaaaGreat
