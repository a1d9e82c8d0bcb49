/- Parts of the proof that follows. No condition. -/
import Derived.Test.YtidfcoooccblaaaGreatBho9
set_option maxRecDepth 100000
set_option maxHeartbeats 8000000
set_option linter.unusedSimpArgs false
set_option linter.unusedVariables false
namespace Go.Proofs.YtidfcoooccblaaaGreat
open Go.RowKit
def tiRel (w:World) (p:Option Addr) (l:List Af) (cap:Nat) (a':Act) (W:World):Prop:=
 Below w.heap.size w W/\∃(i:Nat) (T:List Int) (v:Value),(∃u:Nat->Value,a'= {tmps:= #[.slice p l.length cap,u 1,.slice none 0 0,v,.int .i64 (i:Int),u 5,u 6,u 7,u 8,u 9,u 10,u 11,u 12,u 13,u 14,u 15,u 16,u 17,u 18,u 19,u 20,u 21,u 22,u 23,u 24,u 25,u 26,u 27,u 28,u 29,u 30,u 31,u 32,u 33,u 34,u 35,u 36,u 37,u 38,u 39,u 40,u 41,u 42,u 43,u 44,u 45,u 46,u 47,u 48,u 49,u 50,u 51,u 52,u 53,u 54,u 55,u 56,u 57,u 58,u 59,u 60,u 61,u 62,u 63,u 64,u 65,u 66,u 67,u 68,u 69],defers:= []})/\
  Ca W w.heap.size 2 1 v T.length (T.map (Value.int .i64))/\T=Ae (l.take i)/\i<=l.length/\(∀r,r∈l.take i->fitR r=true)/\cnt (l.take i)<=256
def tjRel (w:World) (p:Option Addr) (l:List Af) (cap i:Nat) (T:List Int) (r:Af) (g:Nat) (a':Act) (W:World):Prop:=
 Below w.heap.size w W/\Blk W g #[r.f,r.s,r.c] 144/\∃(k:Nat) (T1:List Int) (v:Value),(∃u:Nat->Value,a'= {tmps:= #[.slice p l.length cap,u 1,.slice none 0 0,v,.int .i64 (i:Int),.pointer (some ⟨g,0,none⟩),.int .i64 (k:Int),u 7,u 8,u 9,u 10,u 11,u 12,u 13,u 14,u 15,u 16,u 17,u 18,u 19,u 20,u 21,u 22,u 23,u 24,u 25,u 26,u 27,u 28,u 29,u 30,u 31,u 32,u 33,u 34,u 35,u 36,u 37,u 38,u 39,u 40,u 41,u 42,u 43,u 44,u 45,u 46,u 47,u 48,u 49,u 50,u 51,u 52,u 53,u 54,u 55,u 56,u 57,u 58,u 59,u 60,u 61,u 62,u 63,u 64,u 65,u 66,u 67,u 68,u 69],defers:= []})/\
  Ca W w.heap.size 2 1 v T1.length (T1.map (Value.int .i64))/\T1=T++(List.range k).map (fun(j:Nat)=>r.f+r.s*(j:Int))/\(k:Int)<=r.c
structure UpTo (T:List Int) (n:Nat):Prop where
 lo:∀(k:Nat) (x:Int),k<n->T[k]? =some x->0<=x/\x<=281474976710656
 up:∀(k:Nat) (x y:Int),k+1<n->T[k]? =some x->T[k+1]? =some y->x<y
theorem UpTo.pair :∀ {T:List Int},UpTo T T.length->T.Pairwise (·<·)
 | [],_=>List.Pairwise.nil
 | [a],_=>by simp
 |a::b::l,h=>by
  have ht:UpTo (b::l) (b::l).length:=⟨fun k x hk hx=>h.lo (k+1) x (by simp at hk⊢;omega) (by simpa using hx),fun k x y hk hx hy=>h.up (k+1) x y (by simp at hk⊢;omega) (by simpa using hx) (by simpa using hy)⟩
  have ih:=ht.pair
  have hab:a<b:=h.up 0 a b (by simp) (by simp) (by simp)
  refine List.pairwise_cons.2 ⟨fun c hc=> ?_,ih⟩
  rcases List.mem_cons.1 hc with rfl|hc
  ·exact hab
  ·have:=(List.pairwise_cons.1 ih).1 c hc;omega
def risRel (w:World) (b o cap:Nat) (T:List Int) (a':Act) (W:World):Prop:=
 Below w.heap.size w W/\∃(i:Nat),(∃u:Nat->Value,a'= {tmps:= #[.slice (some ⟨b,o,none⟩) T.length cap,u 1,.bool false,.int .i64 (i:Int),u 4,u 5,u 6,u 7,u 8,u 9,u 10,u 11,u 12,u 13,u 14,u 15,u 16,u 17,u 18,u 19,u 20,u 21,u 22,u 23,u 24,u 25,u 26,u 27,u 28,u 29,u 30,u 31,u 32,u 33,u 34,u 35,u 36,u 37,u 38,u 39,u 40,u 41,u 42,u 43,u 44,u 45],defers:= []})/\i<=T.length/\UpTo T i
theorem Oi (W:World) (a b c:Value) (t:TypeId) (j:Nat) (u:Value) (h: [a,b,c][j]? =some u):(W.alloc (.cells #[a,b,c] t)).cell? ((⟨W.heap.size,0,none⟩:Addr).add j)=some u:=by
 have hb:Blk (W.alloc (.cells #[a,b,c] t)) W.heap.size #[a,b,c] t:=Blk.new' rfl
 have hadd:(⟨W.heap.size,0,none⟩:Addr).add j=⟨W.heap.size,j,none⟩:=by unfold Addr.add;split<;>simp_all
 rw[hadd,hb.cell]
 simpa using h
theorem Oe (L:List Af) (r:Af):As (L++ [r])=As L++ [.int .i64 r.f,.int .i64 r.s,.int .i64 r.c]:=by
 induction L with
 |nil=>rfl
 |cons q L ih=>simp only[List.cons_append,As,ih]
def ofRel (w:World) (b o cap:Nat) (T:List Int) (a':Act) (W:World):Prop:=
 Below w.heap.size w W/\∃(i:Nat) (L:List Af) (v:Value),(∃u:Nat->Value,a'= {tmps:= #[.slice (some ⟨b,o,none⟩) T.length cap,u 1,.slice none 0 0,v,.int .i64 (i:Int),u 5,u 6,u 7,u 8,u 9,u 10,u 11,u 12,u 13,u 14,u 15,u 16,u 17,u 18,u 19,u 20,u 21,u 22,u 23,u 24,u 25,u 26,u 27,u 28,u 29,u 30,u 31,u 32,u 33,u 34,u 35,u 36,u 37,u 38,u 39,u 40,u 41,u 42,u 43,u 44,u 45,u 46,u 47,u 48,u 49,u 50,u 51,u 52,u 53,u 54,u 55,u 56,u 57,u 58,u 59,u 60,u 61,u 62,u 63,u 64,u 65,u 66,u 67,u 68,u 69,u 70,u 71,u 72,u 73,u 74,u 75,u 76,u 77,u 78,u 79,u 80],defers:= []})/\
  Ca W w.heap.size 144 3 v L.length (As L)/\ofL T=L++ofL (T.drop i)/\i<=T.length/\L.length<=i
def ojRel (w:World) (b o cap:Nat) (T:List Int) (i:Nat) (v:Value) (L:List Af) (s x1:Int) (a':Act) (W:World):Prop:=
 Below w.heap.size w W/\∃(j:Nat) (x:Int),(∃u:Nat->Value,a'= {tmps:= #[.slice (some ⟨b,o,none⟩) T.length cap,u 1,.slice none 0 0,v,.int .i64 (i:Int),.int .i64 (j:Int),u 6,u 7,u 8,u 9,u 10,u 11,u 12,u 13,u 14,u 15,u 16,u 17,u 18,u 19,u 20,u 21,u 22,u 23,u 24,u 25,u 26,u 27,u 28,u 29,u 30,u 31,u 32,u 33,u 34,u 35,u 36,u 37,u 38,u 39,u 40,u 41,u 42,u 43,u 44,u 45,u 46,u 47,u 48,u 49,u 50,u 51,u 52,u 53,u 54,u 55,u 56,u 57,u 58,u 59,u 60,u 61,u 62,u 63,u 64,u 65,u 66,u 67,u 68,u 69,u 70,u 71,u 72,u 73,u 74,u 75,u 76,u 77,u 78,u 79,u 80],defers:= []})/\
  Ca W w.heap.size 144 3 v L.length (As L)/\i+1<=j/\j<T.length/\T[j]? =some x/\extn s x1 (T.drop (i+2))=(j-i-1)+extn s x (T.drop (j+1))
structure Fx (w:World) (b o:Nat) (l:List Af):Prop where
 runs:Ai w (some ⟨b,o,none⟩) l
theorem Fx.below {w w':World} {b o:Nat} {l:List Af} (h:Fx w b o l) (hb:Below w.heap.size w w'):Fx w' b o l:=⟨h.runs.below hb⟩
theorem Fx.rex {L:List Nat} {w w':World} {b o:Nat} {l:List Af} (h:Fx w b o l) (hr:Rex L w w') (hL:L= []):Fx w' b o l:=by subst hL;exact h.below hr.below
theorem Fx.drew {w:World} {b o:Nat} {l:List Af} (h:Fx w b o l):Fx w.drew b o l:=⟨⟨h.runs.at'⟩⟩
theorem Fx.cellAt {w:World} {b o:Nat} {l:List Af} (h:Fx w b o l) {i:Nat} {r:Af} (hx:l[i]? =some r):
  w.cell? ⟨b,o+i*3,none⟩=some (r.f)/\w.cell? ⟨b,o+i*3+1,none⟩=some (r.s)/\w.cell? ⟨b,o+i*3+2,none⟩=some (r.c):=h.runs.cells hx
theorem V6 {a b c d e f:Int} {w:World}:((if a=b then (if c=d then (if e=f then Result.ok (Go.Next.value (Value.bool false)) w else Result.ok (Go.Next.value (Value.bool true)) w) else Result.ok (Go.Next.value (Value.bool true)) w) else Result.ok (Go.Next.value (Value.bool true)) w):Result Go.Next)=Result.ok (Go.Next.value (Value.bool (!(decide (a=b)&&decide (c=d)&&decide (e=f))))) w:=by
 by_cases h1:a=b<;>by_cases h2:c=d<;>by_cases h3:e=f<;>simp[h1,h2,h3]
def smRel (w:World) (p:Option Addr) (cap:Nat) (p':Option Addr) (cap':Nat) (A B:List Af) (a':Act) (W:World):Prop:=
 Below w.heap.size w W/\∃(i:Nat),(∃u:Nat->Value,a'= {tmps:= #[.slice p A.length cap,.slice p' A.length cap',u 2,u 3,.bool false,.int .i64 (i:Int),u 6,u 7,u 8,u 9,u 10,u 11,u 12,u 13,u 14,u 15,u 16,u 17,u 18,u 19,u 20,u 21,u 22,u 23,u 24,u 25],defers:= []})/\i<=A.length/\∀k,k<i->A[k]? =B[k]?
def ptRel (w1:World) (g bt ot ct:Nat) (T V:List Int) (a':Act) (W:World):Prop:=
 Below w1.heap.size w1 W/\∃(i:Nat) (v:Value),(∃u:Nat->Value,a'= {tmps:= #[u 0,.pointer (some ⟨g,0,none⟩),.slice none 0 0,.bool false,.slice (some ⟨bt,ot,none⟩) T.length ct,v,.int .i64 (i:Int),u 7,u 8,u 9,u 10,u 11,u 12,u 13,u 14,u 15,u 16,u 17,u 18,u 19,u 20,u 21,u 22,u 23,u 24,u 25,u 26,u 27,u 28,u 29,u 30,u 31,u 32,u 33,u 34,u 35,u 36,u 37,u 38,u 39,u 40,u 41,u 42,u 43,u 44,u 45,u 46,u 47,u 48,u 49,u 50,u 51,u 52,u 53,u 54,u 55,u 56,u 57,u 58,u 59],defers:= []})/\
  Ca W w1.heap.size 91 2 v i (Ar ((T.zip V).take i))/\i<=T.length/\∀(k:Nat) (y:Int),k<i->V[k]? =some y->Bi y=true
def PtsPost (w:World) (T V:List Int) (e:Ending) (w':World):Prop:=
 Below w.heap.size w w'/\((V.all Bi=true/\∃v,e= .returned (.tuple #[v,.bool true])/\Ca w' w.heap.size 91 2 v T.length (Ar (T.zip V)))∨(V.all Bi=false/\e= .returned (.tuple #[.slice none 0 0,.bool false])))
theorem c_spTwoL (a b c d:Int) (w:World):Cb 90 #[.agg #[.int .i64 a,.int .i64 b],.agg #[.int .i64 c,.int .i64 d]] w (.agg #[.int .i64 (mn a c),.int .i64 (mn b d)]):=by
 have hm:∀ts t x y w,(Builtin.min_ ts t #[.int .i64 x,.int .i64 y]).run Tryz.prog w= .ok (.int .i64 (mn x y)) w:=fun ts t x y w=>by simp[Builtin.min_,Builtin.min2,mn]
 go_enter Tryz.func90,Tryz.ntmps90
 go_wp2
 refine bodyPost_ret (v:= .agg #[.int .i64 (mn a c),.int .i64 (mn b d)]) (by simp[results,Tryz.results90,go_sem]) rfl ⟨rfl,by exact Aa⟩
theorem c_spTwoM (a b c d:Int) (w:World):Cb 91 #[.agg #[.int .i64 a,.int .i64 b],.agg #[.int .i64 c,.int .i64 d]] w (.agg #[.int .i64 (mx a c),.int .i64 (mx b d)]):=by
 have hm:∀ts t x y w,(Builtin.max_ ts t #[.int .i64 x,.int .i64 y]).run Tryz.prog w= .ok (.int .i64 (mx x y)) w:=fun ts t x y w=>by simp[Builtin.max_,Builtin.max2,mx]
 go_enter Tryz.func91,Tryz.ntmps91
 go_wp2
 refine bodyPost_ret (v:= .agg #[.int .i64 (mx a c),.int .i64 (mx b d)]) (by simp[results,Tryz.results91,go_sem]) rfl ⟨rfl,by exact Aa⟩
theorem L5 {l:List Int} (h:l≠ []) (x:Int):Aw (l++ [x])=mn (Aw l) x:=by
 cases l with
 |nil=>exact absurd rfl h
 |cons y l=>simp[Aw,List.foldl_append]
theorem Uu {l:List (Int×Int)} {i:Nat} {x y:Int} (h:l[i]? =some (x,y)):
  (i=0->Aw ((l.take (0+1)).map (·.1))=x/\Aw ((l.take (0+1)).map (·.2))=y)/\(0<i->Aw ((l.take (i+1)).map (·.1))=mn (Aw ((l.take i).map (·.1))) x/\Aw ((l.take (i+1)).map (·.2))=mn (Aw ((l.take i).map (·.2))) y):=by
 have hlt:=(List.getElem?_eq_some_iff.1 h).1
 constructor
 ·rintro rfl
  cases l with
  |nil=>simp at h
  |cons z l=>simp at h;subst h;simp[Aw]
 ·intro hi
  have hne:∀f:Int×Int->Int,(l.take i).map f≠ []:=fun f e=>by have:=congrArg List.length e;rw[List.length_map,List.length_take] at this;simp only[List.length_nil] at this;omega
  rw[List.take_add_one,h]
  simp only[Option.toList_some,List.map_append,List.map_cons,List.map_nil]
  exact⟨L5 (hne _) x,L5 (hne _) y⟩
theorem L6 {l:List Int} (h:l≠ []) (x:Int):Ay (l++ [x])=mx (Ay l) x:=by
 cases l with
 |nil=>exact absurd rfl h
 |cons y l=>simp[Ay,List.foldl_append]
theorem Ut {l:List (Int×Int)} {i:Nat} {x y:Int} (h:l[i]? =some (x,y)):
  (i=0->Ay ((l.take (0+1)).map (·.1))=x/\Ay ((l.take (0+1)).map (·.2))=y)/\(0<i->Ay ((l.take (i+1)).map (·.1))=mx (Ay ((l.take i).map (·.1))) x/\Ay ((l.take (i+1)).map (·.2))=mx (Ay ((l.take i).map (·.2))) y):=by
 have hlt:=(List.getElem?_eq_some_iff.1 h).1
 constructor
 ·rintro rfl
  cases l with
  |nil=>simp at h
  |cons z l=>simp at h;subst h;simp[Ay]
 ·intro hi
  have hne:∀f:Int×Int->Int,(l.take i).map f≠ []:=fun f e=>by have:=congrArg List.length e;rw[List.length_map,List.length_take] at this;simp only[List.length_nil] at this;omega
  rw[List.take_add_one,h]
  simp only[Option.toList_some,List.map_append,List.map_cons,List.map_nil]
  exact⟨L6 (hne _) x,L6 (hne _) y⟩
def Qz (w:World) (p:Option Addr) (cap:Nat) (l:List (Int×Int)) (a':Act) (W:World):Prop:=
 Below w.heap.size w W/\Blk W w.heap.size #[.int .i64 0,.int .i64 0] 169/\∃i:Nat,Blk W (w.heap.size+1) #[.int .i64 (Aw ((l.take i).map (·.1))),.int .i64 (Aw ((l.take i).map (·.2)))] 169/\(∃u:Nat->Value,a'= {tmps:= #[.slice p l.length cap,.func (.func 90) #[] #[],u 2,u 3,.pointer (some ⟨w.heap.size,0,none⟩),u 5,.pointer (some ⟨w.heap.size+1,0,none⟩),u 7,u 8,.slice p l.length cap,.int .i64 (l.length:Int),.int .i64 (i:Int),u 12,u 13,u 14,u 15,u 16,u 17,u 18,u 19,u 20,u 21,u 22,u 23,u 24,u 25,u 26,u 27],defers:= []})/\i<=l.length
theorem Ya (p:Option Addr) (cap:Nat) (l:List (Int×Int)) (w:World) (hlen:l.length<=1000000) (hpos:0<l.length) (h:A5 w p l):
  Cb 147 #[.slice p l.length cap,.func (.func 90) #[] #[]] w (.tuple #[.agg #[.int .i64 (Aw (l.map (·.1))),.int .i64 (Aw (l.map (·.2)))],.bool true]):=by
 go_enter Tryz.func147,Tryz.ntmps147
 go_wp2
 refine wp_loop (Qz w p cap l) (fun a' _=>l.length-(Aq (a'.tmps.getD 11 undef)).toNat) ?_ ?_
 ·unfold Qz
  exact⟨Aa,Ab,0,Ab,Ag rfl,Nat.zero_le _⟩
 ·rintro a' W ⟨hW0,b1,i,b2,⟨u,rfl⟩,hi'⟩
  have hz:=hW0.size
  have zb1:=b1.lt
  have zb2:=b2.lt
  rcases Nat.lt_or_ge i l.length with hlt|hge
  ·obtain⟨⟨x,y⟩,tr⟩:∃r,l[i]? =some r:=⟨l[i]'(by omega),List.getElem?_eq_getElem (by omega)⟩
   obtain⟨b,o,rfl,q0,q1⟩:=(h.below hW0).at' i _ tr
   simp only at q0 q1
   have hst:=Uu tr
   rcases Nat.eq_zero_or_pos i with rfl|hi0
   ·obtain⟨m,hm⟩:∃m,Aw ((l.take 0).map (·.1))=m:=⟨_,rfl⟩
    obtain⟨n,hn⟩:∃n,Aw ((l.take 0).map (·.2))=n:=⟨_,rfl⟩
    rw[hm,hn] at b2
    replace hst:=Hd (hst.1 rfl)
    clear hm hn tr
    simp only[Nat.zero_mul,Nat.add_zero] at q0 q1
    rw[show ((0:Nat):Int)=0 from rfl]
    have k1:=b1.cell
    have f1:=b1.frozen
    have k2:=b2.cell
    have f2:=b2.frozen
    go_wp2
    refine⟨?_,by simp[Aq];omega⟩
    unfold Qz
    exact⟨hW0.trans Aa,Ab,1,by rw[hst.out.1,hst.out.2];exact Ab,Ag rfl,by omega⟩
   ·have hst:=hst.2 hi0
    obtain⟨m,hm⟩:∃m,Aw ((l.take i).map (·.1))=m:=⟨_,rfl⟩
    obtain⟨n,hn⟩:∃n,Aw ((l.take i).map (·.2))=n:=⟨_,rfl⟩
    rw[hm,hn] at b2 hst
    replace hst:=Hd hst
    have hne:((i:Int)==0)=false:=by simp;omega
    clear hm hn tr
    have k1:=b1.cell
    have f1:=b1.frozen
    have k2:=b2.cell
    have f2:=b2.frozen
    go_wp2_with fail
    refine(c_spTwoL m n x y _).mono ?_
    rintro e w21 ⟨rfl,hb21⟩
    have z22:=hb21.size
    try simp at z22
    clear k1 f1 k2 f2
    refine Ad W w21 (Bc w.heap.size #[.int .i64 0,.int .i64 0] 169<|Bc (w.heap.size+1) #[.int .i64 m,.int .i64 n] 169<|Bc W.heap.size #[.int .i64 x,.int .i64 y] 169<|Bz) ?_
    clear b1 b2
    rintro hW z23 ⟨⟨b1,yb1,k1,f1⟩,⟨b2,yb2,k2,f2⟩,⟨b3,yb3,k3,f3⟩,-⟩
    clear hb21
    go_wp2
    rw[show (i:Int)+1=((i+1:Nat):Int) by omega]
    refine⟨?_,by simp[Aq];omega⟩
    unfold Qz
    exact⟨hW0.trans Aa,Ab,i+1,by rw[hst.out.1,hst.out.2];exact Ab,Ag rfl,by omega⟩
  ·obtain rfl:i=l.length:=by omega
   rw[List.take_length] at b2
   have k1:=b1.cell
   have f1:=b1.frozen
   have k2:=b2.cell
   have f2:=b2.frozen
   have hgt:decide ((0:Int)<(l.length:Int))=true:=by simp;omega
   go_wp2
   have y1:=b1.lt
   have y2:=b2.lt
   refine bodyPost_ret (v:= .tuple #[.agg #[.int .i64 (Aw (l.map (·.1))),.int .i64 (Aw (l.map (·.2)))],.bool true]) (by simp[results,Tryz.results147,go_sem,k1,f1,k2,f2,y1,y2,hgt]) rfl ⟨rfl,?_⟩
   exact hW0.trans Aa
def Qy (w:World) (p:Option Addr) (cap:Nat) (l:List (Int×Int)) (a':Act) (W:World):Prop:=
 Below w.heap.size w W/\Blk W w.heap.size #[.int .i64 0,.int .i64 0] 169/\∃i:Nat,Blk W (w.heap.size+1) #[.int .i64 (Ay ((l.take i).map (·.1))),.int .i64 (Ay ((l.take i).map (·.2)))] 169/\(∃u:Nat->Value,a'= {tmps:= #[.slice p l.length cap,.func (.func 91) #[] #[],u 2,u 3,.pointer (some ⟨w.heap.size,0,none⟩),u 5,.pointer (some ⟨w.heap.size+1,0,none⟩),u 7,u 8,.slice p l.length cap,.int .i64 (l.length:Int),.int .i64 (i:Int),u 12,u 13,u 14,u 15,u 16,u 17,u 18,u 19,u 20,u 21,u 22,u 23,u 24,u 25,u 26,u 27],defers:= []})/\i<=l.length
theorem X9 (p:Option Addr) (cap:Nat) (l:List (Int×Int)) (w:World) (hlen:l.length<=1000000) (hpos:0<l.length) (h:A5 w p l):
  Cb 147 #[.slice p l.length cap,.func (.func 91) #[] #[]] w (.tuple #[.agg #[.int .i64 (Ay (l.map (·.1))),.int .i64 (Ay (l.map (·.2)))],.bool true]):=by
 go_enter Tryz.func147,Tryz.ntmps147
 go_wp2
 refine wp_loop (Qy w p cap l) (fun a' _=>l.length-(Aq (a'.tmps.getD 11 undef)).toNat) ?_ ?_
 ·unfold Qy
  exact⟨Aa,Ab,0,Ab,Ag rfl,Nat.zero_le _⟩
 ·rintro a' W ⟨hW0,b1,i,b2,⟨u,rfl⟩,hi'⟩
  have hz:=hW0.size
  have zb1:=b1.lt
  have zb2:=b2.lt
  rcases Nat.lt_or_ge i l.length with hlt|hge
  ·obtain⟨⟨x,y⟩,tr⟩:∃r,l[i]? =some r:=⟨l[i]'(by omega),List.getElem?_eq_getElem (by omega)⟩
   obtain⟨b,o,rfl,q0,q1⟩:=(h.below hW0).at' i _ tr
   simp only at q0 q1
   have hst:=Ut tr
   rcases Nat.eq_zero_or_pos i with rfl|hi0
   ·obtain⟨m,hm⟩:∃m,Ay ((l.take 0).map (·.1))=m:=⟨_,rfl⟩
    obtain⟨n,hn⟩:∃n,Ay ((l.take 0).map (·.2))=n:=⟨_,rfl⟩
    rw[hm,hn] at b2
    replace hst:=Hd (hst.1 rfl)
    clear hm hn tr
    simp only[Nat.zero_mul,Nat.add_zero] at q0 q1
    rw[show ((0:Nat):Int)=0 from rfl]
    have k1:=b1.cell
    have f1:=b1.frozen
    have k2:=b2.cell
    have f2:=b2.frozen
    go_wp2
    refine⟨?_,by simp[Aq];omega⟩
    unfold Qy
    exact⟨hW0.trans Aa,Ab,1,by rw[hst.out.1,hst.out.2];exact Ab,Ag rfl,by omega⟩
   ·have hst:=hst.2 hi0
    obtain⟨m,hm⟩:∃m,Ay ((l.take i).map (·.1))=m:=⟨_,rfl⟩
    obtain⟨n,hn⟩:∃n,Ay ((l.take i).map (·.2))=n:=⟨_,rfl⟩
    rw[hm,hn] at b2 hst
    replace hst:=Hd hst
    have hne:((i:Int)==0)=false:=by simp;omega
    clear hm hn tr
    have k1:=b1.cell
    have f1:=b1.frozen
    have k2:=b2.cell
    have f2:=b2.frozen
    go_wp2_with fail
    refine(c_spTwoM m n x y _).mono ?_
    rintro e w21 ⟨rfl,hb21⟩
    have z22:=hb21.size
    try simp at z22
    clear k1 f1 k2 f2
    refine Ad W w21 (Bc w.heap.size #[.int .i64 0,.int .i64 0] 169<|Bc (w.heap.size+1) #[.int .i64 m,.int .i64 n] 169<|Bc W.heap.size #[.int .i64 x,.int .i64 y] 169<|Bz) ?_
    clear b1 b2
    rintro hW z23 ⟨⟨b1,yb1,k1,f1⟩,⟨b2,yb2,k2,f2⟩,⟨b3,yb3,k3,f3⟩,-⟩
    clear hb21
    go_wp2
    rw[show (i:Int)+1=((i+1:Nat):Int) by omega]
    refine⟨?_,by simp[Aq];omega⟩
    unfold Qy
    exact⟨hW0.trans Aa,Ab,i+1,by rw[hst.out.1,hst.out.2];exact Ab,Ag rfl,by omega⟩
  ·obtain rfl:i=l.length:=by omega
   rw[List.take_length] at b2
   have k1:=b1.cell
   have f1:=b1.frozen
   have k2:=b2.cell
   have f2:=b2.frozen
   have hgt:decide ((0:Int)<(l.length:Int))=true:=by simp;omega
   go_wp2
   have y1:=b1.lt
   have y2:=b2.lt
   refine bodyPost_ret (v:= .tuple #[.agg #[.int .i64 (Ay (l.map (·.1))),.int .i64 (Ay (l.map (·.2)))],.bool true]) (by simp[results,Tryz.results147,go_sem,k1,f1,k2,f2,y1,y2,hgt]) rfl ⟨rfl,?_⟩
   exact hW0.trans Aa
theorem Tryz.infoEnds :(Tryz.prog.info? 169).map (fun i=>(i.zero,i.size,i.bytes))=some (some (.agg #[.int .i64 0,.int .i64 0]),2,16):=by kernel_rfl
theorem c_spOf (a b:Int) (w:World):Cb 146 #[.agg #[.int .i64 a,.int .i64 b]] w (.agg #[.int .i64 a,.int .i64 b]):=by
 go_enter Tryz.func146,Tryz.ntmps146
 go_wp2
 refine bodyPost_ret (v:= .agg #[.int .i64 a,.int .i64 b]) (by simp[results,Tryz.results146,go_sem]) rfl ⟨rfl,by exact Aa⟩
theorem Jj (a b:Int) (w:World):Cb 95 #[.agg #[.int .i64 a,.int .i64 b]] w (.agg #[.int .i64 a,.int .i64 b]):=by
 go_enter Tryz.func95,Tryz.ntmps95
 go_wp2
 refine bodyPost_ret (v:= .agg #[.int .i64 a,.int .i64 b]) (by simp[results,Tryz.results95,go_sem]) rfl ⟨rfl,by exact Aa⟩
theorem Ca.ptsS {w:World} {B n:Nat} {t:TypeId} {v:Value} {l:List (Int×Int)} (h:Ca w B t 2 v n (Ar l)) (hn:0<n):∃g cp,v= .slice (some ⟨g,0,none⟩) n cp/\A5 w (some ⟨g,0,none⟩) l:=by
 rcases h.own.2 with⟨_,h0⟩|⟨g,cap,cur,rfl,_,hb,_,_,_,ht⟩
 ·omega
 ·exact⟨g,cap,rfl,Kn hb ht⟩
def Tx (w:World) (p:Option Addr) (cap:Nat) (l:List (Int×Int)) (a':Act) (W:World):Prop:=
 Below w.heap.size w W/\Blk W w.heap.size #[.int .i64 0,.int .i64 0] 33/\∃(i:Nat) (v:Value),Ca W w.heap.size 169 2 v i (Ar (l.take i))/\(∃u:Nat->Value,a'= {tmps:= #[.slice p l.length cap,.func (.func 90) #[] #[],u 2,u 3,.pointer (some ⟨w.heap.size,0,none⟩),u 5,u 6,v,u 8,u 9,u 10,u 11,u 12,u 13,u 14,u 15,u 16,u 17,u 18,.slice p l.length cap,.int .i64 (l.length:Int),.int .i64 (i:Int),u 22,u 23,u 24,u 25,u 26,u 27,u 28,u 29,u 30,u 31,u 32,u 33,u 34,u 35,u 36,u 37,u 38,u 39,u 40,u 41,u 42,u 43,u 44,u 45,u 46],defers:= []})/\i<=l.length
theorem togL_w (p:Option Addr) (cap:Nat) (l:List (Int×Int)) (w:World) (hlen:l.length<=1000000) (hpos:0<l.length) (h:A5 w p l)
  (c1:∀W,Below w.heap.size w W->Cb 92 #[.slice p l.length cap] W (.int .i64 0))
  (c2:∀W g cp,A5 W (some ⟨g,0,none⟩) l->Cb 147 #[.slice (some ⟨g,0,none⟩) l.length cp,.func (.func 90) #[] #[]] W (.tuple #[.agg #[.int .i64 (Aw (l.map (·.1))),.int .i64 (Aw (l.map (·.2)))],.bool true]))
  (c3:∀W,Cb 96 #[.agg #[.int .i64 (Aw (l.map (·.1))),.int .i64 (Aw (l.map (·.2)))]] W (.int .i64 0)):
  Cb 89 #[.slice p l.length cap,.func (.func 90) #[] #[]] w (.tuple #[.agg #[.int .i64 (Aw (l.map (·.1))),.int .i64 (Aw (l.map (·.2)))],.int .i64 0]):=by
 obtain⟨i0,hi,hz0,hz1,hz2⟩:=info_parts Tryz.infoEnds
 replace c2:=Hd c2
 replace c3:=Hd c3
 have H_c1:=Hd c1
 clear c1
 go_enter Tryz.func89,Tryz.ntmps89
 go_wp2_with fail
 refine(H_c1.out _ Aa).mono ?_
 rintro e w1 ⟨rfl,hb1⟩
 have z2:=hb1.size
 try simp at z2
 refine Ad w w1 (Bc w.heap.size #[.int .i64 0,.int .i64 0] 33<|Bz) ?_
 rintro hW z3 ⟨⟨b1,yb1,k1,f1⟩,-⟩
 clear hb1
 have hWW:=hW
 go_wp2
 refine wp_loop (Tx w p cap l) (fun a' _=>l.length-(Aq (a'.tmps.getD 21 undef)).toNat) ?_ ?_
 ·unfold Tx
  exact⟨hW,b1,0,_,Ca.nil _ _ _ _,Ag rfl,Nat.zero_le _⟩
 ·rintro a' W ⟨hW0,b1,i,v,hown,⟨u,rfl⟩,hi'⟩
  have hz:=hW0.size
  have zb1:=b1.lt
  rcases Nat.lt_or_ge i l.length with hlt|hge
  ·obtain⟨⟨x,y⟩,tr⟩:∃r,l[i]? =some r:=⟨l[i]'(by omega),List.getElem?_eq_getElem (by omega)⟩
   obtain⟨b,o,rfl,q0,q1⟩:=(h.below hW0).at' i _ tr
   simp only at q0 q1
   have htk:=Hd (show Ar (l.take (i+1))=Ar (l.take i)++ [.int .i64 x,.int .i64 y] by rw[List.take_add_one,tr];exact Ej _ _)
   clear tr
   have k1:=b1.cell
   have f1:=b1.frozen
   have cb:=Hd (c_spOf x y)
   go_wp2_with fail
   refine(cb.out _).mono ?_
   rintro e w21 ⟨rfl,hb21⟩
   have z22:=hb21.size
   try simp at z22
   clear k1 f1
   refine Ad W w21 (Bc w.heap.size #[.int .i64 0,.int .i64 0] 33<|Bc W.heap.size #[.int .i64 x,.int .i64 y] 33<|Bz) ?_
   clear b1
   rintro hW z23 ⟨⟨b1,yb1,k1,f1⟩,⟨b2,yb2,k2,f2⟩,-⟩
   clear hb21
   have hown':=(hown.below hW).own
   have hW9:=hW0.trans (hW.mono hz)
   have ya9:=hW9.size
   clear cb hown hW
   go_wp2_with (at_builtin;refine wpList_append_own _ rfl (.tmp 25) (.tmp 28) 232 rfl w.heap.size 169 i0 (.agg #[.int .i64 0,.int .i64 0]) 2 16 (by kernel_rfl) hi hz0 hz1 hz2 rfl (by decide) _ _ _ rfl (hown'.alloc _) ⟨w21.heap.size,0,none⟩ 1 1 [.int .i64 x,.int .i64 y] rfl rfl (Em _ _ _ _) (by simp[Value.oneCell']) (by simp[maxLen];omega) (by omega) (by simp;omega) ?_)
   intro v' w9 hown2 hgr _
   have hB:=Hd (Fp hW9 ya9 hown' hgr)
   have b9:=b1.grown hown' (by decide) hgr
   replace hown2:=Hd hown2
   clear hgr hown' b1 b2 k1 f1
   go_wp2
   rw[show (i:Int)+1=((i+1:Nat):Int) by omega]
   refine⟨?_,by simp[Aq];omega⟩
   unfold Tx
   exact⟨hB.out,b9,i+1,v',⟨by rw[htk.out];simpa using hown2.out⟩,Ag rfl,by omega⟩
  ·obtain rfl:i=l.length:=by omega
   rw[List.take_length] at hown
   obtain⟨g0,cp0,rfl,hP⟩:=hown.ptsS (by omega)
   replace hP:=Hd hP
   replace c2:=c2.out
   replace c3:=c3.out
   obtain⟨m,hm⟩:∃m,Aw (l.map (·.1))=m:=⟨_,rfl⟩
   obtain⟨n,hn⟩:∃n,Aw (l.map (·.2))=n:=⟨_,rfl⟩
   rw[hm,hn] at c2 c3
   replace hm:=Hd hm
   replace hn:=Hd hn
   clear hown
   have k1:=b1.cell
   have f1:=b1.frozen
   have hW:Below w.heap.size w W:=hW0
   have H_c2:=Hd c2
   have H_c3:=Hd c3
   clear c2 c3
   go_wp2_with fail
   refine(H_c2.out _ g0 cp0 hP.out).mono ?_
   rintro e w51 ⟨rfl,hb51⟩
   have z52:=hb51.size
   try simp at z52
   clear k1 f1
   refine Ad w w51 (Bc w.heap.size #[.int .i64 0,.int .i64 0] 33<|Bz) ?_
   clear b1 hW
   rintro hW z53 ⟨⟨b1,yb1,k1,f1⟩,-⟩
   clear hb51
   go_wp2_with fail
   refine(Jj m n _).mono ?_
   rintro e w54 ⟨rfl,hb54⟩
   have z55:=hb54.size
   try simp at z55
   clear k1 f1
   refine Ad w w54 (Bc w.heap.size #[.int .i64 0,.int .i64 0] 33<|Bc w51.heap.size #[.int .i64 m,.int .i64 n] 169<|Bz) ?_
   clear b1 hW
   rintro hW z56 ⟨⟨b1,yb1,k1,f1⟩,⟨b2,yb2,k2,f2⟩,-⟩
   clear hb54
   go_wp2_with fail
   refine(H_c3.out _).mono ?_
   rintro e w57 ⟨rfl,hb57⟩
   have z58:=hb57.size
   try simp at z58
   clear k1 f1 k2 f2
   refine Ad w w57 (Bc w.heap.size #[.int .i64 0,.int .i64 0] 33<|Bc w51.heap.size #[.int .i64 m,.int .i64 n] 169<|Bc w54.heap.size #[.int .i64 m,.int .i64 n] 33<|Bz) ?_
   clear b1 b2 hW
   rintro hW z59 ⟨⟨b1,yb1,k1,f1⟩,⟨b2,yb2,k2,f2⟩,⟨b3,yb3,k3,f3⟩,-⟩
   clear hb57
   go_wp2
   have y1:=b1.lt
   refine bodyPost_ret (v:= .tuple #[.agg #[.int .i64 m,.int .i64 n],.int .i64 0]) (by simp[results,Tryz.results89,go_sem,k1,f1,y1]) rfl ⟨by rw[hm.out,hn.out],Aa⟩
def Tw (w:World) (p:Option Addr) (cap:Nat) (l:List (Int×Int)) (a':Act) (W:World):Prop:=
 Below w.heap.size w W/\Blk W w.heap.size #[.int .i64 0,.int .i64 0] 33/\∃(i:Nat) (v:Value),Ca W w.heap.size 169 2 v i (Ar (l.take i))/\(∃u:Nat->Value,a'= {tmps:= #[.slice p l.length cap,.func (.func 91) #[] #[],u 2,u 3,.pointer (some ⟨w.heap.size,0,none⟩),u 5,u 6,v,u 8,u 9,u 10,u 11,u 12,u 13,u 14,u 15,u 16,u 17,u 18,.slice p l.length cap,.int .i64 (l.length:Int),.int .i64 (i:Int),u 22,u 23,u 24,u 25,u 26,u 27,u 28,u 29,u 30,u 31,u 32,u 33,u 34,u 35,u 36,u 37,u 38,u 39,u 40,u 41,u 42,u 43,u 44,u 45,u 46],defers:= []})/\i<=l.length
theorem togM_w (p:Option Addr) (cap:Nat) (l:List (Int×Int)) (w:World) (hlen:l.length<=1000000) (hpos:0<l.length) (h:A5 w p l)
  (c1:∀W,Below w.heap.size w W->Cb 92 #[.slice p l.length cap] W (.int .i64 0))
  (c2:∀W g cp,A5 W (some ⟨g,0,none⟩) l->Cb 147 #[.slice (some ⟨g,0,none⟩) l.length cp,.func (.func 91) #[] #[]] W (.tuple #[.agg #[.int .i64 (Ay (l.map (·.1))),.int .i64 (Ay (l.map (·.2)))],.bool true]))
  (c3:∀W,Cb 96 #[.agg #[.int .i64 (Ay (l.map (·.1))),.int .i64 (Ay (l.map (·.2)))]] W (.int .i64 0)):
  Cb 89 #[.slice p l.length cap,.func (.func 91) #[] #[]] w (.tuple #[.agg #[.int .i64 (Ay (l.map (·.1))),.int .i64 (Ay (l.map (·.2)))],.int .i64 0]):=by
 obtain⟨i0,hi,hz0,hz1,hz2⟩:=info_parts Tryz.infoEnds
 replace c2:=Hd c2
 replace c3:=Hd c3
 have H_c1:=Hd c1
 clear c1
 go_enter Tryz.func89,Tryz.ntmps89
 go_wp2_with fail
 refine(H_c1.out _ Aa).mono ?_
 rintro e w1 ⟨rfl,hb1⟩
 have z2:=hb1.size
 try simp at z2
 refine Ad w w1 (Bc w.heap.size #[.int .i64 0,.int .i64 0] 33<|Bz) ?_
 rintro hW z3 ⟨⟨b1,yb1,k1,f1⟩,-⟩
 clear hb1
 have hWW:=hW
 go_wp2
 refine wp_loop (Tw w p cap l) (fun a' _=>l.length-(Aq (a'.tmps.getD 21 undef)).toNat) ?_ ?_
 ·unfold Tw
  exact⟨hW,b1,0,_,Ca.nil _ _ _ _,Ag rfl,Nat.zero_le _⟩
 ·rintro a' W ⟨hW0,b1,i,v,hown,⟨u,rfl⟩,hi'⟩
  have hz:=hW0.size
  have zb1:=b1.lt
  rcases Nat.lt_or_ge i l.length with hlt|hge
  ·obtain⟨⟨x,y⟩,tr⟩:∃r,l[i]? =some r:=⟨l[i]'(by omega),List.getElem?_eq_getElem (by omega)⟩
   obtain⟨b,o,rfl,q0,q1⟩:=(h.below hW0).at' i _ tr
   simp only at q0 q1
   have htk:=Hd (show Ar (l.take (i+1))=Ar (l.take i)++ [.int .i64 x,.int .i64 y] by rw[List.take_add_one,tr];exact Ej _ _)
   clear tr
   have k1:=b1.cell
   have f1:=b1.frozen
   have cb:=Hd (c_spOf x y)
   go_wp2_with fail
   refine(cb.out _).mono ?_
   rintro e w21 ⟨rfl,hb21⟩
   have z22:=hb21.size
   try simp at z22
   clear k1 f1
   refine Ad W w21 (Bc w.heap.size #[.int .i64 0,.int .i64 0] 33<|Bc W.heap.size #[.int .i64 x,.int .i64 y] 33<|Bz) ?_
   clear b1
   rintro hW z23 ⟨⟨b1,yb1,k1,f1⟩,⟨b2,yb2,k2,f2⟩,-⟩
   clear hb21
   have hown':=(hown.below hW).own
   have hW9:=hW0.trans (hW.mono hz)
   have ya9:=hW9.size
   clear cb hown hW
   go_wp2_with (at_builtin;refine wpList_append_own _ rfl (.tmp 25) (.tmp 28) 232 rfl w.heap.size 169 i0 (.agg #[.int .i64 0,.int .i64 0]) 2 16 (by kernel_rfl) hi hz0 hz1 hz2 rfl (by decide) _ _ _ rfl (hown'.alloc _) ⟨w21.heap.size,0,none⟩ 1 1 [.int .i64 x,.int .i64 y] rfl rfl (Em _ _ _ _) (by simp[Value.oneCell']) (by simp[maxLen];omega) (by omega) (by simp;omega) ?_)
   intro v' w9 hown2 hgr _
   have hB:=Hd (Fp hW9 ya9 hown' hgr)
   have b9:=b1.grown hown' (by decide) hgr
   replace hown2:=Hd hown2
   clear hgr hown' b1 b2 k1 f1
   go_wp2
   rw[show (i:Int)+1=((i+1:Nat):Int) by omega]
   refine⟨?_,by simp[Aq];omega⟩
   unfold Tw
   exact⟨hB.out,b9,i+1,v',⟨by rw[htk.out];simpa using hown2.out⟩,Ag rfl,by omega⟩
  ·obtain rfl:i=l.length:=by omega
   rw[List.take_length] at hown
   obtain⟨g0,cp0,rfl,hP⟩:=hown.ptsS (by omega)
   replace hP:=Hd hP
   replace c2:=c2.out
   replace c3:=c3.out
   obtain⟨m,hm⟩:∃m,Ay (l.map (·.1))=m:=⟨_,rfl⟩
   obtain⟨n,hn⟩:∃n,Ay (l.map (·.2))=n:=⟨_,rfl⟩
   rw[hm,hn] at c2 c3
   replace hm:=Hd hm
   replace hn:=Hd hn
   clear hown
   have k1:=b1.cell
   have f1:=b1.frozen
   have hW:Below w.heap.size w W:=hW0
   have H_c2:=Hd c2
   have H_c3:=Hd c3
   clear c2 c3
   go_wp2_with fail
   refine(H_c2.out _ g0 cp0 hP.out).mono ?_
   rintro e w51 ⟨rfl,hb51⟩
   have z52:=hb51.size
   try simp at z52
   clear k1 f1
   refine Ad w w51 (Bc w.heap.size #[.int .i64 0,.int .i64 0] 33<|Bz) ?_
   clear b1 hW
   rintro hW z53 ⟨⟨b1,yb1,k1,f1⟩,-⟩
   clear hb51
   go_wp2_with fail
   refine(Jj m n _).mono ?_
   rintro e w54 ⟨rfl,hb54⟩
   have z55:=hb54.size
   try simp at z55
   clear k1 f1
   refine Ad w w54 (Bc w.heap.size #[.int .i64 0,.int .i64 0] 33<|Bc w51.heap.size #[.int .i64 m,.int .i64 n] 169<|Bz) ?_
   clear b1 hW
   rintro hW z56 ⟨⟨b1,yb1,k1,f1⟩,⟨b2,yb2,k2,f2⟩,-⟩
   clear hb54
   go_wp2_with fail
   refine(H_c3.out _).mono ?_
   rintro e w57 ⟨rfl,hb57⟩
   have z58:=hb57.size
   try simp at z58
   clear k1 f1 k2 f2
   refine Ad w w57 (Bc w.heap.size #[.int .i64 0,.int .i64 0] 33<|Bc w51.heap.size #[.int .i64 m,.int .i64 n] 169<|Bc w54.heap.size #[.int .i64 m,.int .i64 n] 33<|Bz) ?_
   clear b1 b2 hW
   rintro hW z59 ⟨⟨b1,yb1,k1,f1⟩,⟨b2,yb2,k2,f2⟩,⟨b3,yb3,k3,f3⟩,-⟩
   clear hb57
   go_wp2
   have y1:=b1.lt
   refine bodyPost_ret (v:= .tuple #[.agg #[.int .i64 m,.int .i64 n],.int .i64 0]) (by simp[results,Tryz.results89,go_sem,k1,f1,y1]) rfl ⟨by rw[hm.out,hn.out],Aa⟩
theorem pubL_w (p:Option Addr) (len cap:Nat) (m n:Int) (w:World)
  (c1:∀W,Below w.heap.size w W->Cb 89 #[.slice p len cap,.func (.func 90) #[] #[]] W (.tuple #[.agg #[.int .i64 m,.int .i64 n],.int .i64 0])):
  Cb 43 #[.slice p len cap] w (.tuple #[.agg #[.int .i64 m,.int .i64 n],.int .i64 0]):=by
 have H_c1:=Hd c1
 clear c1
 go_enter Tryz.func43,Tryz.ntmps43
 go_wp2_with fail
 refine(H_c1.out _ Aa).mono ?_
 rintro e w1 ⟨rfl,hb1⟩
 have z2:=hb1.size
 try simp at z2
 refine Ad w w1 (Bc w.heap.size #[.int .i64 0,.int .i64 0] 33<|Bz) ?_
 rintro hW z3 ⟨⟨b1,yb1,k1,f1⟩,-⟩
 clear hb1
 go_wp2
 refine bodyPost_ret (by simp[results,Tryz.results43,go_sem,k1,f1,yb1]) rfl ⟨rfl,by exact Aa⟩
theorem X8 (p:Option Addr) (cap:Nat) (l:List (Int×Int)) (w:World) (hlen:l.length<=1000000) (hpos:0<l.length) (h:A5 w p l) (hall:l.all (fun x=>decide (x.1<=x.2))=true):
  Cb 43 #[.slice p l.length cap] w (.tuple #[.agg #[.int .i64 (Aw (l.map (·.1))),.int .i64 (Aw (l.map (·.2)))],.int .i64 0]):=by
 have hs:Nt l=0:=by unfold Nt;rw[hall];rfl
 have hne:l≠ []:=List.length_pos_iff.1 hpos
 have hne1:l.map (·.1)≠ []:=by simpa using hne
 have hne2:l.map (·.2)≠ []:=by simpa using hne
 have hle:Aw (l.map (·.1))<=Aw (l.map (·.2)):=by
  obtain⟨x,hx,he⟩:=List.mem_map.1 (C8 hne2).1
  exact Int.le_trans ((C8 hne1).2 _ (List.mem_map_of_mem hx)) (by have:=List.all_eq_true.1 hall x hx;simp only[decide_eq_true_eq] at this;rw[<-he];exact this)
 refine pubL_w p l.length cap _ _ w fun W hW=>togL_w p cap l W hlen hpos (h.below hW) (fun W' hW'=> ?_) (fun W' g cp hp=>Ya _ cp l W' hlen hpos hp) (fun W'=> ?_)
 ·have:=Jk p cap l W' hlen ((h.below hW).below hW')
  rw[hs] at this
  exact this
 ·have:=Ex (Aw (l.map (·.1))) (Aw (l.map (·.2))) W'
  unfold spE at this
  rw[if_pos hle] at this
  exact this
theorem pubM_w (p:Option Addr) (len cap:Nat) (m n:Int) (w:World)
  (c1:∀W,Below w.heap.size w W->Cb 89 #[.slice p len cap,.func (.func 91) #[] #[]] W (.tuple #[.agg #[.int .i64 m,.int .i64 n],.int .i64 0])):
  Cb 44 #[.slice p len cap] w (.tuple #[.agg #[.int .i64 m,.int .i64 n],.int .i64 0]):=by
 have H_c1:=Hd c1
 clear c1
 go_enter Tryz.func44,Tryz.ntmps44
 go_wp2_with fail
 refine(H_c1.out _ Aa).mono ?_
 rintro e w1 ⟨rfl,hb1⟩
 have z2:=hb1.size
 try simp at z2
 refine Ad w w1 (Bc w.heap.size #[.int .i64 0,.int .i64 0] 33<|Bz) ?_
 rintro hW z3 ⟨⟨b1,yb1,k1,f1⟩,-⟩
 clear hb1
 go_wp2
 refine bodyPost_ret (by simp[results,Tryz.results44,go_sem,k1,f1,yb1]) rfl ⟨rfl,by exact Aa⟩
theorem c_spMost (p:Option Addr) (cap:Nat) (l:List (Int×Int)) (w:World) (hlen:l.length<=1000000) (hpos:0<l.length) (h:A5 w p l) (hall:l.all (fun x=>decide (x.1<=x.2))=true):
  Cb 44 #[.slice p l.length cap] w (.tuple #[.agg #[.int .i64 (Ay (l.map (·.1))),.int .i64 (Ay (l.map (·.2)))],.int .i64 0]):=by
 have hs:Nt l=0:=by unfold Nt;rw[hall];rfl
 have hne:l≠ []:=List.length_pos_iff.1 hpos
 have hne1:l.map (·.1)≠ []:=by simpa using hne
 have hne2:l.map (·.2)≠ []:=by simpa using hne
 have hle:Ay (l.map (·.1))<=Ay (l.map (·.2)):=by
  obtain⟨x,hx,he⟩:=List.mem_map.1 (C9 hne1).1
  exact by have:=List.all_eq_true.1 hall x hx;simp only[decide_eq_true_eq] at this;have h2:=(C9 hne2).2 _ (List.mem_map_of_mem (f:=fun z:Int×Int=>z.2) hx);(try simp only at h2);(try simp only at he);omega
 refine pubM_w p l.length cap _ _ w fun W hW=>togM_w p cap l W hlen hpos (h.below hW) (fun W' hW'=> ?_) (fun W' g cp hp=>X9 _ cp l W' hlen hpos hp) (fun W'=> ?_)
 ·have:=Jk p cap l W' hlen ((h.below hW).below hW')
  rw[hs] at this
  exact this
 ·have:=Ex (Ay (l.map (·.1))) (Ay (l.map (·.2))) W'
  unfold spE at this
  rw[if_pos hle] at this
  exact this
end Go.Proofs.YtidfcoooccblaaaGreat
