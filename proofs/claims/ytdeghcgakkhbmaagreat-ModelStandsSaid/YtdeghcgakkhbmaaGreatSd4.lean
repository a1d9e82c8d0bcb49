/- Parts of the proof that follows. No condition. -/
import Derived.Laws.EntriesVeiled
import Derived.Laws.AppendOwn
import Derived.Test.YtdeghcgakkhbmaaGreatSd3
set_option maxRecDepth 100000
set_option maxHeartbeats 8000000
set_option linter.unusedSimpArgs false
set_option linter.unusedVariables false
namespace Go.Proofs.YtdeghcgakkhbmaaGreat
open Go.RowKit
theorem Blk.three {W:World} {g n:Nat} {L:List Ah} {t:TypeId} (h:Blk W g (K8 L) t) (hn:n<L.length):
  ∃a b c,W.cell? ⟨g,n*3,none⟩=some a/\W.cell? ⟨g,n*3+1,none⟩=some b/\W.cell? ⟨g,n*3+2,none⟩=some c:=by
 obtain⟨a,b,c⟩:=Qs L n _ (List.getElem?_eq_getElem hn)
 have k:=h.cell
 exact⟨.int .i64 L[n].f,.int .i64 L[n].s,.int .i64 L[n].c,by rw[k];simpa [K8] using a,by rw[k];simpa [K8] using b,by rw[k];simpa [K8] using c⟩
def piecesRel (p:Option Addr) (cap:Nat) (l:List Ah) (i j:Int) (w:World) (a':Act) (W:World):Prop:=
 Below w.heap.size w W/\∃k:Nat,(∃u:Nat->Value,a'= {tmps:= #[(.slice p l.length cap),.int .i64 (i-cnt (l.take k)),.int .i64 (j-cnt (l.take k)),u 3,u 4,u 5,u 6,.slice (some ⟨w.heap.size,0,none⟩) l.length l.length,.int .i64 ((Qn (l.take k) i j).length:Int),u 9,u 10,u 11,u 12,u 13,u 14,u 15,u 16,u 17,u 18,(.slice p l.length cap),.int .i64 (l.length:Int),.int .i64 (k:Int),u 22,u 23,u 24,u 25,u 26,u 27,u 28,u 29,u 30,u 31,u 32,u 33,u 34,u 35,u 36,u 37,u 38,u 39,u 40,u 41,u 42,u 43,u 44,u 45,u 46,u 47,u 48,u 49,u 50,u 51,u 52,u 53,u 54,u 55,u 56,u 57,u 58,u 59,u 60,u 61,u 62,u 63,u 64],defers:= []})/\k<=l.length/\Blk W w.heap.size (K8 (Qn (l.take k) i j++l.drop (Qn (l.take k) i j).length)) 141
def PiecesOut (w:World) (l:List Ah) (v:Value) (w':World):Prop:=∃g,v= .slice (some ⟨g,0,none⟩) l.length l.length/\w.heap.size<=g/\Al w' (some ⟨g,0,none⟩) l
structure A3 (w:World) (p:Option Addr) (l:List Int):Prop where
 at':∀(i:Nat) (x:Int),l[i]? =some x->∃b o,p=some ⟨b,o,none⟩/\w.cell? ⟨b,o+i,none⟩=some (x)
theorem A3.below {w w':World} {p:Option Addr} {l:List Int} (h:A3 w p l) (hb:Below w.heap.size w w'):A3 w' p l:=⟨fun i r hr=>by
 obtain⟨b,o,e,h1⟩:=h.at' i r hr
 have hB:=(Dc hb).1
 exact⟨b,o,e,(hB b _ (Ap h1)).trans h1⟩⟩
theorem A3.drew {w:World} {p:Option Addr} {l:List Int} (h:A3 w p l):A3 w.drew p l:=⟨h.at'⟩
def Yy:List Int->Int
 | []=>0
 |x::l=>l.foldl mn x
def Y0:List Int->Int
 | []=>0
 |x::l=>l.foldl mx x
def minRel (p:Option Addr) (cap:Nat) (l:List Int) (w:World) (a':Act) (W:World):Prop:=
 Below w.heap.size w W/\∃(i:Nat) (m:Int),(∃u:Nat->Value,a'= {tmps:= #[(.slice p l.length cap),u 1,u 2,m,.int .i64 (i:Int),u 5,u 6,u 7,u 8,u 9,u 10,u 11,u 12,u 13,u 14,u 15,u 16,u 17,u 18,u 19,u 20,u 21,u 22,u 23,u 24],defers:= []})/\1<=i/\i<=l.length/\m=Yy (l.take i)
def maxRel (p:Option Addr) (cap:Nat) (l:List Int) (w:World) (a':Act) (W:World):Prop:=
 Below w.heap.size w W/\∃(i:Nat) (m:Int),(∃u:Nat->Value,a'= {tmps:= #[(.slice p l.length cap),u 1,u 2,m,.int .i64 (i:Int),u 5,u 6,u 7,u 8,u 9,u 10,u 11,u 12,u 13,u 14,u 15,u 16,u 17,u 18,u 19,u 20,u 21,u 22,u 23,u 24],defers:= []})/\1<=i/\i<=l.length/\m=Y0 (l.take i)
theorem c_sback (v:Int) (w:World):Cb 207 #[v] w (.bool (Ay v)):=by
 unfold Ay
 go_enter Tryz.func207,Tryz.ntmps207
 go_upto_region 1 with(fail)
 refine Ab w (Bz) ?_
 rintro W1 hW z2 hL
 refine Bg 7 9 hW hL ?_
 iterate 3 refine dA ?_
 iterate 2 refine gA ?_
 refine pA ?_
 refine dA ?_
 clear hW hL
 rintro W3 hW z4 hL
 simp only[ndR]
 intros
 repeat (rename Am _ _ _ _=>hgd;clear hgd)
 simp only[ndS]
 refine wpList_nil ?_
 obtain⟨-⟩:=hL
 go_wp2
 refine bodyPost_ret (by simp[results,Tryz.results207,go_sem]) rfl ⟨rfl,by exact Aa⟩
theorem c_rawis1 (v:Int) (w:World):Cb 206 #[v] w (.bool (!Ay v)):=by
 have c1:=fun W=>c_sback v W
 have H_c1:=Hd c1
 clear c1
 go_enter Tryz.func206,Tryz.ntmps206
 go_wp2_with fail
 refine(H_c1.out _).mono ?_
 rintro e w1 ⟨rfl,hb1⟩
 have z2:=hb1.size
 try simp at z2
 refine Aj w w1 (Bz) ?_
 rintro hW z3 ⟨-⟩
 clear hb1
 go_wp2
 refine bodyPost_ret (by simp[results,Tryz.results206,go_sem]) rfl ⟨rfl,by exact Aa⟩
def idxRel (p:Option Addr) (cap:Nat) (l:List Int) (w:World) (a':Act) (W:World):Prop:=
 Below w.heap.size w W/\∃i:Nat,(∃u:Nat->Value,a'= {tmps:= #[(.slice p l.length cap),.func (.func 206) #[] #[],u 2,u 3,u 4,u 5,(.slice p l.length cap),.int .i64 (l.length:Int),.int .i64 (i:Int),u 9,u 10,u 11,u 12,u 13,u 14,u 15,u 16,u 17,u 18],defers:= []})/\i<=l.length/\(l.take i).all Ay=true
def IdxOut (l:List Int) (w:World) (e:Ending) (w':World):Prop:=∃r:Int,e= .returned (r)/\decide (0<=r)= !(l.all Ay)/\ -1<=r/\Below w.heap.size w w'
theorem all_take {l:List Int} {i:Nat} {v:Int} (hv:l[i]? =some v) (h:(l.take i).all Ay=true):(l.take (i+1)).all Ay=Ay v:=by
 rw[List.getElem?_eq_some_iff] at hv
 obtain⟨hi,rfl⟩:=hv
 rw[List.take_succ_eq_append_getElem hi,List.all_append,h]
 simp
theorem all_false {l:List Int} {i:Nat} {v:Int} (hv:l[i]? =some v) (h:Ay v=false):l.all Ay=false:=by
 rw[List.all_eq_false]
 exact⟨v,List.mem_of_getElem? hv,by simp[h]⟩
theorem index_w (p:Option Addr) (cap:Nat) (l:List Int) (w:World) (hlen:l.length<=1000000) (h:A3 w p l):
  Calls Tryz.prog 224 #[.slice p l.length cap,.func (.func 206) #[] #[]] w (IdxOut l w):=by
 go_enter Tryz.func224,Tryz.ntmps224
 go_wp2
 refine wp_loop (idxRel p cap l w) (fun a' _=>l.length-(Ag (a'.tmps.getD 8 undef)).toNat) ?_ ?_
 ·unfold idxRel
  exact⟨Aa,0,Ac rfl,by omega,by simp⟩
 ·rintro a' W ⟨hW,i,⟨u,rfl⟩,hi,hm⟩
  have hz:=hW.size
  replace hm:=Hd hm
  rcases Nat.lt_or_ge i l.length with hlt|hge
  ·obtain⟨v,hv⟩:∃v,l[i]? =some v:=⟨l[i],List.getElem?_eq_getElem hlt⟩
   obtain⟨b',o',e,k1⟩:=(h.below hW).at' i v hv
   cases e
   have hn:=Hd (all_take hv hm.out)
   replace hv:=Hd hv
   go_wp2_with fail
   refine(c_rawis1 v _).mono ?_
   rintro e w4 ⟨rfl,hb4⟩
   have hz4:=hb4.size
   clear k1
   cases hb:Ay v with
   |true=>
    rw[hb] at hn
    go_wp2
    rw[show (i:Int)+1=((i+1:Nat):Int) by omega]
    refine⟨?_,by simp[Ag];omega⟩
    unfold idxRel
    exact⟨Aa,i+1,Ac rfl,by omega,hn.out⟩
   |false=>
    have hf:=Hd (all_false hv.out hb)
    clear hn
    go_wp2
    go_ret
    exact⟨_,rfl,by rw[hf.out];simp,by omega,Aa⟩
  ·have e:i=l.length:=by omega
   subst e
   have hm':=hm.out
   rw[List.take_length] at hm'
   replace hm':=Hd hm'
   clear hm
   go_wp2
   go_ret
   exact⟨_,rfl,by rw[hm'.out];simp,by omega,hW⟩
theorem c_contains (p:Option Addr) (cap:Nat) (l:List Int) (w:World) (hlen:l.length<=1000000) (h:A3 w p l):
  Cb 205 #[.slice p l.length cap,.func (.func 206) #[] #[]] w (.bool (!(l.all Ay))):=by
 go_enter Tryz.func205,Tryz.ntmps205
 go_wp2_with fail
 refine(index_w p cap l _ hlen h).mono ?_
 rintro e w4 ⟨r,rfl,hr,hr1,hb4⟩
 have hr':=Hd hr
 clear hr
 go_wp2
 go_ret
 exact⟨by rw[<-hr'.out];rfl,hb4⟩
theorem span_w (K A R n d E:Int) (p q:Option Addr) (len cap m vc:Nat) (w:World) (x y N:Int) (hx:0<=x/\x<=281474976710656) (hy:0<=y/\y<=281474976710656) (hN:0<=N/\N<=256)
  (c1:∀W,Below w.heap.size w W->Cb 154 #[.slice p len cap,.int .i64 0] W (.tuple #[x,.int .i64 0]))
  (c2:∀W,Below w.heap.size w W->Cb 155 #[.slice p len cap] W (N))
  (c3:∀W,Below w.heap.size w W->Cb 154 #[.slice p len cap,.int .i64 (N-1)] W (.tuple #[y,.int .i64 0])):
  Cb 175 #[.agg #[K,.slice p len cap,A,R,n,d,.slice q m vc,E]] w (.tuple #[x,.int .i64 (y-x)]):=by
 have e1:=Hd (show wrap64 (N-1)=N-1 by rw[Ak];omega)
 have H_c1:=Hd c1
 clear c1
 have H_c2:=Hd c2
 clear c2
 have H_c3:=Hd c3
 clear c3
 go_enter Tryz.func175,Tryz.ntmps175
 go_upto_region 1 with(fail)
 refine Ab w (Bc w.heap.size #[K,.slice p len cap,A,R,n,d,.slice q m vc,E] 190<|Bz) ?_
 rintro W1 hW z2 ⟨⟨b1,yb1,k1,f1⟩,-⟩
 go_wp2_with fail
 refine(H_c1.out _ (Aa)).mono ?_
 rintro e w3 ⟨rfl,hb3⟩
 have z4:=hb3.size
 try simp at z4
 clear k1 f1
 refine Aj w w3 (Bc w.heap.size #[K,.slice p len cap,A,R,n,d,.slice q m vc,E] 190<|Bz) ?_
 clear b1 hW
 rintro hW z5 ⟨⟨b1,yb1,k1,f1⟩,-⟩
 clear hb3
 go_upto_region 2 with(fail)
 clear k1 f1
 refine Ab w (Bc w.heap.size #[K,.slice p len cap,A,R,n,d,.slice q m vc,E] 190<|Bz) ?_
 clear b1 hW
 rintro W6 hW z7 hL
 refine Bw 14 31 hW hL ?_
 iterate 6 refine dE (fun W' hC=>e1.out) ?_
 refine cE (fun W' hC=>e1.out) (fun W' hC=>H_c2.out W' (hW.trans (hC.1.of_priv hW.size))) ?_
 refine dE (fun W' hC=>e1.out) ?_
 refine cE (fun W' hC=>e1.out) (fun W' hC=>H_c3.out W' (hW.trans (hC.1.of_priv hW.size))) ?_
 iterate 5 refine dE (fun W' hC=>e1.out) ?_
 clear hW hL
 rintro W8 hW z9 hL
 simp only[ndR]
 intros
 simp only[ndS]
 refine wpList_nil ?_
 obtain⟨⟨b1,yb1,k1,f1⟩,-⟩:=hL
 go_wp2
 refine bodyPost_ret (by simp[results,Tryz.results175,go_sem,k1,f1,yb1]) rfl ⟨rfl,by exact Aa⟩
theorem lineis_yes (K A R n d E:Int) (p q:Option Addr) (len cap m vc:Nat) (w:World) (x L a b:Int)
  (c1:∀W,Below w.heap.size w W->Cb 175 #[.agg #[K,.slice p len cap,A,R,n,d,.slice q 0 vc,E]] W (.tuple #[x,L]))
  (c2:∀W,Below w.heap.size w W->Cb 202 #[.agg #[A,R,n,d],.int .i64 0,L] W (.tuple #[.agg #[a,b],.int .i64 0])):
  Cb 188 #[.agg #[K,.slice p len cap,A,R,n,d,.slice q 0 vc,E]] w (.bool true):=by
 have H_c1:=Hd c1
 clear c1
 have H_c2:=Hd c2
 clear c2
 go_enter Tryz.func188,Tryz.ntmps188
 go_upto_region 1 with(fail)
 refine Ab w (Bc w.heap.size #[K,.slice p len cap,A,R,n,d,.slice q 0 vc,E] 190<|Bz) ?_
 rintro W1 hW z2 ⟨⟨b1,yb1,k1,f1⟩,-⟩
 go_wp2_with fail
 refine(H_c1.out _ (Aa)).mono ?_
 rintro e w3 ⟨rfl,hb3⟩
 have z4:=hb3.size
 try simp at z4
 clear k1 f1
 refine Aj w w3 (Bc w.heap.size #[K,.slice p len cap,A,R,n,d,.slice q 0 vc,E] 190<|Bz) ?_
 clear b1 hW
 rintro hW z5 ⟨⟨b1,yb1,k1,f1⟩,-⟩
 clear hb3
 go_wp2_with fail
 refine(H_c2.out _ (Aa)).mono ?_
 rintro e w6 ⟨rfl,hb6⟩
 have z7:=hb6.size
 try simp at z7
 clear k1 f1
 refine Aj w w6 (Bc w.heap.size #[K,.slice p len cap,A,R,n,d,.slice q 0 vc,E] 190<|Bz) ?_
 clear b1 hW
 rintro hW z8 ⟨⟨b1,yb1,k1,f1⟩,-⟩
 clear hb6
 go_wp2
 refine bodyPost_ret (by simp[results,Tryz.results188,go_sem,k1,f1,yb1]) rfl ⟨rfl,by exact Aa⟩
theorem lineis_raw (K A R n d E:Int) (p q:Option Addr) (len cap m vc:Nat) (w:World) (x L a b:Int) (hm:¬m=0)
  (c1:∀W,Below w.heap.size w W->Cb 175 #[.agg #[K,.slice p len cap,A,R,n,d,.slice q m vc,E]] W (.tuple #[x,L]))
  (c2:∀W,Below w.heap.size w W->Cb 202 #[.agg #[A,R,n,d],.int .i64 0,L] W (.tuple #[.agg #[a,b],.int .i64 0])):
  Cb 188 #[.agg #[K,.slice p len cap,A,R,n,d,.slice q m vc,E]] w (.bool false):=by
 have H_c1:=Hd c1
 clear c1
 have H_c2:=Hd c2
 clear c2
 go_enter Tryz.func188,Tryz.ntmps188
 go_upto_region 1 with(fail)
 refine Ab w (Bc w.heap.size #[K,.slice p len cap,A,R,n,d,.slice q m vc,E] 190<|Bz) ?_
 rintro W1 hW z2 ⟨⟨b1,yb1,k1,f1⟩,-⟩
 go_wp2_with fail
 refine(H_c1.out _ (Aa)).mono ?_
 rintro e w3 ⟨rfl,hb3⟩
 have z4:=hb3.size
 try simp at z4
 clear k1 f1
 refine Aj w w3 (Bc w.heap.size #[K,.slice p len cap,A,R,n,d,.slice q m vc,E] 190<|Bz) ?_
 clear b1 hW
 rintro hW z5 ⟨⟨b1,yb1,k1,f1⟩,-⟩
 clear hb3
 go_wp2_with fail
 refine(H_c2.out _ (Aa)).mono ?_
 rintro e w6 ⟨rfl,hb6⟩
 have z7:=hb6.size
 try simp at z7
 clear k1 f1
 refine Aj w w6 (Bc w.heap.size #[K,.slice p len cap,A,R,n,d,.slice q m vc,E] 190<|Bz) ?_
 clear b1 hW
 rintro hW z8 ⟨⟨b1,yb1,k1,f1⟩,-⟩
 clear hb6
 go_wp2
 refine bodyPost_ret (by simp[results,Tryz.results188,go_sem,k1,f1,yb1,hm]) rfl ⟨rfl,by exact Aa⟩
theorem Y5 (K A R n d E:Int) (p q:Option Addr) (len cap m vc:Nat) (w:World) (x L a b:Int)
  (c1:∀W,Below w.heap.size w W->Cb 175 #[.agg #[K,.slice p len cap,A,R,n,d,.slice q m vc,E]] W (.tuple #[x,L]))
  (c2:∀W,Below w.heap.size w W->Cb 202 #[.agg #[A,R,n,d],.int .i64 0,L] W (.tuple #[.agg #[a,b],.int .i64 5])):
  Cb 188 #[.agg #[K,.slice p len cap,A,R,n,d,.slice q m vc,E]] w (.bool false):=by
 have H_c1:=Hd c1
 clear c1
 have H_c2:=Hd c2
 clear c2
 go_enter Tryz.func188,Tryz.ntmps188
 go_upto_region 1 with(fail)
 refine Ab w (Bc w.heap.size #[K,.slice p len cap,A,R,n,d,.slice q m vc,E] 190<|Bz) ?_
 rintro W1 hW z2 ⟨⟨b1,yb1,k1,f1⟩,-⟩
 go_wp2_with fail
 refine(H_c1.out _ (Aa)).mono ?_
 rintro e w3 ⟨rfl,hb3⟩
 have z4:=hb3.size
 try simp at z4
 clear k1 f1
 refine Aj w w3 (Bc w.heap.size #[K,.slice p len cap,A,R,n,d,.slice q m vc,E] 190<|Bz) ?_
 clear b1 hW
 rintro hW z5 ⟨⟨b1,yb1,k1,f1⟩,-⟩
 clear hb3
 go_wp2_with fail
 refine(H_c2.out _ (Aa)).mono ?_
 rintro e w6 ⟨rfl,hb6⟩
 have z7:=hb6.size
 try simp at z7
 clear k1 f1
 refine Aj w w6 (Bc w.heap.size #[K,.slice p len cap,A,R,n,d,.slice q m vc,E] 190<|Bz) ?_
 clear b1 hW
 rintro hW z8 ⟨⟨b1,yb1,k1,f1⟩,-⟩
 clear hb6
 go_wp2
 refine bodyPost_ret (by simp[results,Tryz.results188,go_sem,k1,f1,yb1]) rfl ⟨rfl,by exact Aa⟩
theorem lineis_no (K A R n d E:Int) (p q:Option Addr) (len cap m vc:Nat) (w:World) (x L a b:Int)
  (c1:∀W,Below w.heap.size w W->Cb 175 #[.agg #[K,.slice p len cap,A,R,n,d,.slice q m vc,E]] W (.tuple #[x,L]))
  (c2:∀W,Below w.heap.size w W->Cb 202 #[.agg #[A,R,n,d],.int .i64 0,L] W (.tuple #[.agg #[a,b],.int .i64 150])):
  Cb 188 #[.agg #[K,.slice p len cap,A,R,n,d,.slice q m vc,E]] w (.bool false):=by
 have H_c1:=Hd c1
 clear c1
 have H_c2:=Hd c2
 clear c2
 go_enter Tryz.func188,Tryz.ntmps188
 go_upto_region 1 with(fail)
 refine Ab w (Bc w.heap.size #[K,.slice p len cap,A,R,n,d,.slice q m vc,E] 190<|Bz) ?_
 rintro W1 hW z2 ⟨⟨b1,yb1,k1,f1⟩,-⟩
 go_wp2_with fail
 refine(H_c1.out _ (Aa)).mono ?_
 rintro e w3 ⟨rfl,hb3⟩
 have z4:=hb3.size
 try simp at z4
 clear k1 f1
 refine Aj w w3 (Bc w.heap.size #[K,.slice p len cap,A,R,n,d,.slice q m vc,E] 190<|Bz) ?_
 clear b1 hW
 rintro hW z5 ⟨⟨b1,yb1,k1,f1⟩,-⟩
 clear hb3
 go_wp2_with fail
 refine(H_c2.out _ (Aa)).mono ?_
 rintro e w6 ⟨rfl,hb6⟩
 have z7:=hb6.size
 try simp at z7
 clear k1 f1
 refine Aj w w6 (Bc w.heap.size #[K,.slice p len cap,A,R,n,d,.slice q m vc,E] 190<|Bz) ?_
 clear b1 hW
 rintro hW z8 ⟨⟨b1,yb1,k1,f1⟩,-⟩
 clear hb6
 go_wp2
 refine bodyPost_ret (by simp[results,Tryz.results188,go_sem,k1,f1,yb1]) rfl ⟨rfl,by exact Aa⟩
theorem kind1_flat (K A R n d E:Int) (p q:Option Addr) (len cap m vc:Nat) (w:World) (b:Bool)
  (c1:∀W,Below w.heap.size w W->Cb 188 #[.agg #[K,.slice p len cap,A,R,.int .i64 0,d,.slice q m vc,E]] W (.bool b)):
  Cb 187 #[.agg #[K,.slice p len cap,A,R,.int .i64 0,d,.slice q m vc,E]] w (.bool b):=by
 have H_c1:=Hd c1
 clear c1
 go_enter Tryz.func187,Tryz.ntmps187
 go_upto_region 1 with(fail)
 refine Ab w (Bc w.heap.size #[K,.slice p len cap,A,R,.int .i64 0,d,.slice q m vc,E] 190<|Bz) ?_
 rintro W1 hW z2 ⟨⟨b1,yb1,k1,f1⟩,-⟩
 go_wp2_with fail
 refine(H_c1.out _ (Aa)).mono ?_
 rintro e w3 ⟨rfl,hb3⟩
 have z4:=hb3.size
 try simp at z4
 clear k1 f1
 refine Aj w w3 (Bc w.heap.size #[K,.slice p len cap,A,R,.int .i64 0,d,.slice q m vc,E] 190<|Bz) ?_
 clear b1 hW
 rintro hW z5 ⟨⟨b1,yb1,k1,f1⟩,-⟩
 clear hb3
 go_wp2
 refine bodyPost_ret (by simp[results,Tryz.results187,go_sem,k1,f1,yb1]) rfl ⟨rfl,by exact Aa⟩
theorem kind1_no (K A R n d E:Int) (p q:Option Addr) (len cap m vc:Nat) (w:World) (b:Bool) (hn:(n==0)=false)
   :
  Cb 187 #[.agg #[K,.slice p len cap,A,R,n,d,.slice q m vc,E]] w (.bool false):=by
 go_enter Tryz.func187,Tryz.ntmps187
 go_upto_region 1 with(fail)
 refine Ab w (Bc w.heap.size #[K,.slice p len cap,A,R,n,d,.slice q m vc,E] 190<|Bz) ?_
 rintro W1 hW z2 ⟨⟨b1,yb1,k1,f1⟩,-⟩
 go_wp2
 refine bodyPost_ret (by simp[results,Tryz.results187,go_sem,k1,f1,yb1]) rfl ⟨rfl,by exact Aa⟩
theorem kind2_tilt (K A R n d E:Int) (p q:Option Addr) (len cap m vc:Nat) (w:World) (b:Bool) (hn:(n !=0)=true)
  (c1:∀W,Below w.heap.size w W->Cb 188 #[.agg #[K,.slice p len cap,A,.int .i64 0,n,d,.slice q m vc,E]] W (.bool b)):
  Cb 189 #[.agg #[K,.slice p len cap,A,.int .i64 0,n,d,.slice q m vc,E]] w (.bool b):=by
 have H_c1:=Hd c1
 clear c1
 go_enter Tryz.func189,Tryz.ntmps189
 go_upto_region 1 with(fail)
 refine Ab w (Bc w.heap.size #[K,.slice p len cap,A,.int .i64 0,n,d,.slice q m vc,E] 190<|Bz) ?_
 rintro W1 hW z2 ⟨⟨b1,yb1,k1,f1⟩,-⟩
 go_wp2_with fail
 refine(H_c1.out _ (Aa)).mono ?_
 rintro e w3 ⟨rfl,hb3⟩
 have z4:=hb3.size
 try simp at z4
 clear k1 f1
 refine Aj w w3 (Bc w.heap.size #[K,.slice p len cap,A,.int .i64 0,n,d,.slice q m vc,E] 190<|Bz) ?_
 clear b1 hW
 rintro hW z5 ⟨⟨b1,yb1,k1,f1⟩,-⟩
 clear hb3
 go_wp2
 refine bodyPost_ret (by simp[results,Tryz.results189,go_sem,k1,f1,yb1]) rfl ⟨rfl,by exact Aa⟩
theorem kind2_flat (K A R n d E:Int) (p q:Option Addr) (len cap m vc:Nat) (w:World) (b:Bool)
   :
  Cb 189 #[.agg #[K,.slice p len cap,A,R,.int .i64 0,d,.slice q m vc,E]] w (.bool false):=by
 go_enter Tryz.func189,Tryz.ntmps189
 go_upto_region 1 with(fail)
 refine Ab w (Bc w.heap.size #[K,.slice p len cap,A,R,.int .i64 0,d,.slice q m vc,E] 190<|Bz) ?_
 rintro W1 hW z2 ⟨⟨b1,yb1,k1,f1⟩,-⟩
 go_wp2
 refine bodyPost_ret (by simp[results,Tryz.results189,go_sem,k1,f1,yb1]) rfl ⟨rfl,by exact Aa⟩
theorem kind2_free (K A R n d E:Int) (p q:Option Addr) (len cap m vc:Nat) (w:World) (b:Bool) (hn:(n !=0)=true) (hR:(R==0)=false)
   :
  Cb 189 #[.agg #[K,.slice p len cap,A,R,n,d,.slice q m vc,E]] w (.bool false):=by
 go_enter Tryz.func189,Tryz.ntmps189
 go_upto_region 1 with(fail)
 refine Ab w (Bc w.heap.size #[K,.slice p len cap,A,R,n,d,.slice q m vc,E] 190<|Bz) ?_
 rintro W1 hW z2 ⟨⟨b1,yb1,k1,f1⟩,-⟩
 go_wp2
 refine bodyPost_ret (by simp[results,Tryz.results189,go_sem,k1,f1,yb1]) rfl ⟨rfl,by exact Aa⟩
theorem kind3_free (K A R n d E:Int) (p q:Option Addr) (len cap m vc:Nat) (w:World) (b:Bool) (hR:(R !=0)=true)
  (c1:∀W,Below w.heap.size w W->Cb 188 #[.agg #[K,.slice p len cap,A,R,n,d,.slice q m vc,E]] W (.bool b)):
  Cb 190 #[.agg #[K,.slice p len cap,A,R,n,d,.slice q m vc,E]] w (.bool b):=by
 have H_c1:=Hd c1
 clear c1
 go_enter Tryz.func190,Tryz.ntmps190
 go_upto_region 1 with(fail)
 refine Ab w (Bc w.heap.size #[K,.slice p len cap,A,R,n,d,.slice q m vc,E] 190<|Bz) ?_
 rintro W1 hW z2 ⟨⟨b1,yb1,k1,f1⟩,-⟩
 go_wp2_with fail
 refine(H_c1.out _ (Aa)).mono ?_
 rintro e w3 ⟨rfl,hb3⟩
 have z4:=hb3.size
 try simp at z4
 clear k1 f1
 refine Aj w w3 (Bc w.heap.size #[K,.slice p len cap,A,R,n,d,.slice q m vc,E] 190<|Bz) ?_
 clear b1 hW
 rintro hW z5 ⟨⟨b1,yb1,k1,f1⟩,-⟩
 clear hb3
 go_wp2
 refine bodyPost_ret (by simp[results,Tryz.results190,go_sem,k1,f1,yb1]) rfl ⟨rfl,by exact Aa⟩
theorem kind3_no (K A R n d E:Int) (p q:Option Addr) (len cap m vc:Nat) (w:World) (b:Bool)
   :
  Cb 190 #[.agg #[K,.slice p len cap,A,.int .i64 0,n,d,.slice q m vc,E]] w (.bool false):=by
 go_enter Tryz.func190,Tryz.ntmps190
 go_upto_region 1 with(fail)
 refine Ab w (Bc w.heap.size #[K,.slice p len cap,A,.int .i64 0,n,d,.slice q m vc,E] 190<|Bz) ?_
 rintro W1 hW z2 ⟨⟨b1,yb1,k1,f1⟩,-⟩
 go_wp2
 refine bodyPost_ret (by simp[results,Tryz.results190,go_sem,k1,f1,yb1]) rfl ⟨rfl,by exact Aa⟩
attribute [local simp] Oper.looksAt Op.operands Call.operands Af Det Am
def Ku (A R n d:Int):Bool:=decide (A=0/\R=0/\n=0/\d=0)
theorem rawis_w (K A R n d E:Int) (p q:Option Addr) (len cap m vc:Nat) (w:World) (N:Int) (b2:Bool)
  (c1:∀W,Below w.heap.size w W->Cb 155 #[.slice p len cap] W (N))
  (c2:∀W,Below w.heap.size w W->Cb 205 #[.slice q m vc,.func (.func 206) #[] #[]] W (.bool b2)):
  Cb 192 #[.agg #[K,.slice p len cap,A,R,n,d,.slice q m vc,E]] w (.bool (Ku A R n d&&(m:Int)==N&& !b2)):=by
 have H_c1:=Hd c1
 clear c1
 have H_c2:=Hd c2
 clear c2
 go_enter Tryz.func192,Tryz.ntmps192
 go_upto_region 1 with(fail)
 refine Ab w (Bc w.heap.size #[K,.slice p len cap,A,R,n,d,.slice q m vc,E] 190<|Bz) ?_
 rintro W1 hW z2 hL
 obtain⟨⟨b1,yb1,k1,f1⟩,-⟩:=id hL
 clear k1 f1
 refine Bw 24 26 hW hL ?_
 iterate 4 refine dA ?_
 apply An (c:= .bool (Ku A R n d)) (hg:=rfl) (hal:=rfl)
 ·intro a W' hC hE
  obtain⟨_,⟨-,-,k1,-⟩,-⟩:=hC
  simp at hE
  simp[go_sem,Act.eval,hE,k1]
  unfold Ku
  by_cases h1:A=0<;>by_cases h2:R=0<;>by_cases h3:n=0<;>by_cases h4:d=0<;>simp[h1,h2,h3,h4]
 refine dA ?_
 iterate 7 refine gA ?_
 refine cG (fun hp hx W' hC=>H_c1.out W' (hW.trans (hC.1.of_priv hW.size))) ?_
 refine gA ?_
 refine pA ?_
 refine dA ?_
 iterate 3 refine gA ?_
 refine cG (fun hp hx W' hC=>H_c2.out W' (hW.trans (hC.1.of_priv hW.size))) ?_
 refine gA ?_
 refine pA ?_
 refine dA ?_
 clear hW hL b1
 rintro W3 hW z4 hL
 simp only[ndR]
 intros
 repeat (rename Am _ _ _ _=>hgd;clear hgd)
 simp only[ndS]
 refine wpList_nil ?_
 obtain⟨⟨b1,yb1,k1,f1⟩,-⟩:=hL
 go_wp2
 refine bodyPost_ret (v:= .bool (Ku A R n d&&(m:Int)==N&& !b2)) (by simp[results,Tryz.results192,go_sem,k1,f1,yb1]) rfl ⟨rfl,Aa⟩
theorem Qq (w:World):Cb 174 #[] w (.agg #[.nilFunc,.nilFunc,.func (.func 187) #[] #[],.func (.func 191) #[] #[],.func (.func 189) #[] #[],.func (.func 191) #[] #[],.func (.func 190) #[] #[],.func (.func 191) #[] #[],.func (.func 192) #[] #[],.func (.func 193) #[] #[]]):=by
 go_enter Tryz.func174,Tryz.ntmps174
 go_wp2
 exact bodyPost_ret (v:= .agg #[.nilFunc,.nilFunc,.func (.func 187) #[] #[],.func (.func 191) #[] #[],.func (.func 189) #[] #[],.func (.func 191) #[] #[],.func (.func 190) #[] #[],.func (.func 191) #[] #[],.func (.func 192) #[] #[],.func (.func 193) #[] #[]]) (by simp[results,Tryz.results174,go_sem]) rfl ⟨rfl,Aa⟩
theorem is_1 (K A R n d E:Int) (p q:Option Addr) (len cap m vc:Nat) (w:World) (b:Bool)
  (c1:∀W,Below w.heap.size w W->Cb 173 #[.slice p len cap] W (.int .i64 0))
  (c3:∀W,Below w.heap.size w W->Cb 187 #[.agg #[.int .i64 1,.slice p len cap,A,R,n,d,.slice q m vc,E]] W (.bool b)):
  Cb 158 #[.agg #[.int .i64 1,.slice p len cap,A,R,n,d,.slice q m vc,E]] w (.bool (decide (0<=E)&&decide (E<=1099511627776)&&b)):=by
 have H_c1:=Hd c1
 clear c1
 have H_c3:=Hd c3
 clear c3
 go_enter Tryz.func158,Tryz.ntmps158
 go_upto_region 1 with(fail)
 refine Ab w (Bc w.heap.size #[.int .i64 1,.slice p len cap,A,R,n,d,.slice q m vc,E] 190<|Bz) ?_
 rintro W1 hW z2 hL
 obtain⟨⟨b1,yb1,k1,f1⟩,-⟩:=id hL
 clear k1 f1
 refine Bw 40 42 hW hL ?_
 iterate 5 refine dA ?_
 iterate 4 refine gA ?_
 refine pA ?_
 refine dA ?_
 iterate 4 refine gA ?_
 refine pA ?_
 refine dA ?_
 iterate 4 refine gA ?_
 refine pA ?_
 refine dA ?_
 iterate 3 refine gA ?_
 refine cG (fun hp hx W' hC=>H_c1.out W' (hW.trans (hC.1.of_priv hW.size))) ?_
 refine gA ?_
 refine pA ?_
 refine dA ?_
 refine cG (fun hp hx W' hC=>Qq W') ?_
 iterate 3 refine gA ?_
 apply Ai (p:=true) (c:= .agg #[.func (.func 187) #[] #[],.func (.func 191) #[] #[]]) (hg:=rfl) (hd:=rfl) (hal:=rfl)
 ·intro v W' h
  simp at h
  simp
  exact h
 ·intro hp hx a W' hC hE
  simp[hx] at hE
  simp[go_sem,Act.eval,hE]
  kernel_rfl
 iterate 2 refine gA ?_
 refine cG (fun hp hx W' hC=>H_c3.out W' (hW.trans (hC.1.of_priv hW.size))) ?_
 refine pA ?_
 refine dA ?_
 clear hW hL b1
 rintro W3 hW z4 hL
 simp only[ndR]
 intros
 repeat (rename Am _ _ _ _=>hgd;clear hgd)
 simp only[ndS]
 refine wpList_nil ?_
 obtain⟨⟨b1,yb1,k1,f1⟩,-⟩:=hL
 go_wp2
 refine bodyPost_ret (v:= .bool (decide (0<=E)&&decide (E<=1099511627776)&&b)) (by simp[results,Tryz.results158,go_sem,k1,f1,yb1]) rfl ⟨rfl,Aa⟩
theorem is_2 (K A R n d E:Int) (p q:Option Addr) (len cap m vc:Nat) (w:World) (b:Bool)
  (c1:∀W,Below w.heap.size w W->Cb 173 #[.slice p len cap] W (.int .i64 0))
  (c3:∀W,Below w.heap.size w W->Cb 189 #[.agg #[.int .i64 2,.slice p len cap,A,R,n,d,.slice q m vc,E]] W (.bool b)):
  Cb 158 #[.agg #[.int .i64 2,.slice p len cap,A,R,n,d,.slice q m vc,E]] w (.bool (decide (0<=E)&&decide (E<=1099511627776)&&b)):=by
 have H_c1:=Hd c1
 clear c1
 have H_c3:=Hd c3
 clear c3
 go_enter Tryz.func158,Tryz.ntmps158
 go_upto_region 1 with(fail)
 refine Ab w (Bc w.heap.size #[.int .i64 2,.slice p len cap,A,R,n,d,.slice q m vc,E] 190<|Bz) ?_
 rintro W1 hW z2 hL
 obtain⟨⟨b1,yb1,k1,f1⟩,-⟩:=id hL
 clear k1 f1
 refine Bw 40 42 hW hL ?_
 iterate 5 refine dA ?_
 iterate 4 refine gA ?_
 refine pA ?_
 refine dA ?_
 iterate 4 refine gA ?_
 refine pA ?_
 refine dA ?_
 iterate 4 refine gA ?_
 refine pA ?_
 refine dA ?_
 iterate 3 refine gA ?_
 refine cG (fun hp hx W' hC=>H_c1.out W' (hW.trans (hC.1.of_priv hW.size))) ?_
 refine gA ?_
 refine pA ?_
 refine dA ?_
 refine cG (fun hp hx W' hC=>Qq W') ?_
 iterate 3 refine gA ?_
 apply Ai (p:=true) (c:= .agg #[.func (.func 189) #[] #[],.func (.func 191) #[] #[]]) (hg:=rfl) (hd:=rfl) (hal:=rfl)
 ·intro v W' h
  simp at h
  simp
  exact h
 ·intro hp hx a W' hC hE
  simp[hx] at hE
  simp[go_sem,Act.eval,hE]
  kernel_rfl
 iterate 2 refine gA ?_
 refine cG (fun hp hx W' hC=>H_c3.out W' (hW.trans (hC.1.of_priv hW.size))) ?_
 refine pA ?_
 refine dA ?_
 clear hW hL b1
 rintro W3 hW z4 hL
 simp only[ndR]
 intros
 repeat (rename Am _ _ _ _=>hgd;clear hgd)
 simp only[ndS]
 refine wpList_nil ?_
 obtain⟨⟨b1,yb1,k1,f1⟩,-⟩:=hL
 go_wp2
 refine bodyPost_ret (v:= .bool (decide (0<=E)&&decide (E<=1099511627776)&&b)) (by simp[results,Tryz.results158,go_sem,k1,f1,yb1]) rfl ⟨rfl,Aa⟩
theorem is_3 (K A R n d E:Int) (p q:Option Addr) (len cap m vc:Nat) (w:World) (b:Bool)
  (c1:∀W,Below w.heap.size w W->Cb 173 #[.slice p len cap] W (.int .i64 0))
  (c3:∀W,Below w.heap.size w W->Cb 190 #[.agg #[.int .i64 3,.slice p len cap,A,R,n,d,.slice q m vc,E]] W (.bool b)):
  Cb 158 #[.agg #[.int .i64 3,.slice p len cap,A,R,n,d,.slice q m vc,E]] w (.bool (decide (0<=E)&&decide (E<=1099511627776)&&b)):=by
 have H_c1:=Hd c1
 clear c1
 have H_c3:=Hd c3
 clear c3
 go_enter Tryz.func158,Tryz.ntmps158
 go_upto_region 1 with(fail)
 refine Ab w (Bc w.heap.size #[.int .i64 3,.slice p len cap,A,R,n,d,.slice q m vc,E] 190<|Bz) ?_
 rintro W1 hW z2 hL
 obtain⟨⟨b1,yb1,k1,f1⟩,-⟩:=id hL
 clear k1 f1
 refine Bw 40 42 hW hL ?_
 iterate 5 refine dA ?_
 iterate 4 refine gA ?_
 refine pA ?_
 refine dA ?_
 iterate 4 refine gA ?_
 refine pA ?_
 refine dA ?_
 iterate 4 refine gA ?_
 refine pA ?_
 refine dA ?_
 iterate 3 refine gA ?_
 refine cG (fun hp hx W' hC=>H_c1.out W' (hW.trans (hC.1.of_priv hW.size))) ?_
 refine gA ?_
 refine pA ?_
 refine dA ?_
 refine cG (fun hp hx W' hC=>Qq W') ?_
 iterate 3 refine gA ?_
 apply Ai (p:=true) (c:= .agg #[.func (.func 190) #[] #[],.func (.func 191) #[] #[]]) (hg:=rfl) (hd:=rfl) (hal:=rfl)
 ·intro v W' h
  simp at h
  simp
  exact h
 ·intro hp hx a W' hC hE
  simp[hx] at hE
  simp[go_sem,Act.eval,hE]
  kernel_rfl
 iterate 2 refine gA ?_
 refine cG (fun hp hx W' hC=>H_c3.out W' (hW.trans (hC.1.of_priv hW.size))) ?_
 refine pA ?_
 refine dA ?_
 clear hW hL b1
 rintro W3 hW z4 hL
 simp only[ndR]
 intros
 repeat (rename Am _ _ _ _=>hgd;clear hgd)
 simp only[ndS]
 refine wpList_nil ?_
 obtain⟨⟨b1,yb1,k1,f1⟩,-⟩:=hL
 go_wp2
 refine bodyPost_ret (v:= .bool (decide (0<=E)&&decide (E<=1099511627776)&&b)) (by simp[results,Tryz.results158,go_sem,k1,f1,yb1]) rfl ⟨rfl,Aa⟩
theorem is_4 (K A R n d E:Int) (p q:Option Addr) (len cap m vc:Nat) (w:World) (b:Bool)
  (c1:∀W,Below w.heap.size w W->Cb 173 #[.slice p len cap] W (.int .i64 0))
  (c3:∀W,Below w.heap.size w W->Cb 192 #[.agg #[.int .i64 4,.slice p len cap,A,R,n,d,.slice q m vc,E]] W (.bool b)):
  Cb 158 #[.agg #[.int .i64 4,.slice p len cap,A,R,n,d,.slice q m vc,E]] w (.bool (decide (0<=E)&&decide (E<=1099511627776)&&b)):=by
 have H_c1:=Hd c1
 clear c1
 have H_c3:=Hd c3
 clear c3
 go_enter Tryz.func158,Tryz.ntmps158
 go_upto_region 1 with(fail)
 refine Ab w (Bc w.heap.size #[.int .i64 4,.slice p len cap,A,R,n,d,.slice q m vc,E] 190<|Bz) ?_
 rintro W1 hW z2 hL
 obtain⟨⟨b1,yb1,k1,f1⟩,-⟩:=id hL
 clear k1 f1
 refine Bw 40 42 hW hL ?_
 iterate 5 refine dA ?_
 iterate 4 refine gA ?_
 refine pA ?_
 refine dA ?_
 iterate 4 refine gA ?_
 refine pA ?_
 refine dA ?_
 iterate 4 refine gA ?_
 refine pA ?_
 refine dA ?_
 iterate 3 refine gA ?_
 refine cG (fun hp hx W' hC=>H_c1.out W' (hW.trans (hC.1.of_priv hW.size))) ?_
 refine gA ?_
 refine pA ?_
 refine dA ?_
 refine cG (fun hp hx W' hC=>Qq W') ?_
 iterate 3 refine gA ?_
 apply Ai (p:=true) (c:= .agg #[.func (.func 192) #[] #[],.func (.func 193) #[] #[]]) (hg:=rfl) (hd:=rfl) (hal:=rfl)
 ·intro v W' h
  simp at h
  simp
  exact h
 ·intro hp hx a W' hC hE
  simp[hx] at hE
  simp[go_sem,Act.eval,hE]
  kernel_rfl
 iterate 2 refine gA ?_
 refine cG (fun hp hx W' hC=>H_c3.out W' (hW.trans (hC.1.of_priv hW.size))) ?_
 refine pA ?_
 refine dA ?_
 clear hW hL b1
 rintro W3 hW z4 hL
 simp only[ndR]
 intros
 repeat (rename Am _ _ _ _=>hgd;clear hgd)
 simp only[ndS]
 refine wpList_nil ?_
 obtain⟨⟨b1,yb1,k1,f1⟩,-⟩:=hL
 go_wp2
 refine bodyPost_ret (v:= .bool (decide (0<=E)&&decide (E<=1099511627776)&&b)) (by simp[results,Tryz.results158,go_sem,k1,f1,yb1]) rfl ⟨rfl,Aa⟩
theorem is_runs (K A R n d E:Int) (p q:Option Addr) (len cap m vc:Nat) (w:World)
  (c1:∀W,Below w.heap.size w W->Cb 173 #[.slice p len cap] W (.int .i64 170)):
  Cb 158 #[.agg #[K,.slice p len cap,A,R,n,d,.slice q m vc,E]] w (.bool false):=by
 have H_c1:=Hd c1
 clear c1
 go_enter Tryz.func158,Tryz.ntmps158
 go_upto_region 1 with(fail)
 refine Ab w (Bc w.heap.size #[K,.slice p len cap,A,R,n,d,.slice q m vc,E] 190<|Bz) ?_
 rintro W1 hW z2 hL
 obtain⟨⟨b1,yb1,k1,f1⟩,-⟩:=id hL
 clear k1 f1
 refine Bw 40 42 hW hL ?_
 iterate 5 refine dA ?_
 iterate 4 refine gA ?_
 refine pA ?_
 refine dA ?_
 iterate 4 refine gA ?_
 refine pA ?_
 refine dA ?_
 iterate 4 refine gA ?_
 refine pA ?_
 refine dA ?_
 iterate 3 refine gA ?_
 refine cG (fun hp hx W' hC=>H_c1.out W' (hW.trans (hC.1.of_priv hW.size))) ?_
 refine gA ?_
 refine pA ?_
 refine dA ?_
 iterate 8
  apply Ai (p:=true) (c:=undef) (hg:=rfl) (hd:=rfl) (hal:=rfl)
  ·intro v W' h
   simp at h
   simp
   exact h
  ·intro hp hx
   exfalso
   simp at hx
 apply An (c:= .bool false) (hg:=rfl) (hal:=rfl)
 ·intro a W' hC hE
  have hE1:=hE 32 (by simp[Oper.looksAt,Op.operands])
  simp at hE1
  simp[go_sem,Act.eval,hE1]
 refine dA ?_
 clear hW hL b1
 rintro W3 hW z4 hL
 simp only[ndR]
 intros
 repeat (rename Am _ _ _ _=>hgd;clear hgd)
 simp only[ndS]
 refine wpList_nil ?_
 obtain⟨⟨b1,yb1,k1,f1⟩,-⟩:=hL
 go_wp2
 refine bodyPost_ret (v:= .bool false) (by simp[results,Tryz.results158,go_sem,k1,f1,yb1]) rfl ⟨rfl,Aa⟩
theorem is_kind (K A R n d E:Int) (p q:Option Addr) (len cap m vc:Nat) (w:World) (r:Int) (hK:¬(1<=K/\K<=4))
  (c1:∀W,Below w.heap.size w W->Cb 173 #[.slice p len cap] W (r)):
  Cb 158 #[.agg #[K,.slice p len cap,A,R,n,d,.slice q m vc,E]] w (.bool false):=by
 have hK1:(decide (1<=K)&&decide (K<=4))=false:=by simp;omega
 have H_c1:=Hd c1
 clear c1
 go_enter Tryz.func158,Tryz.ntmps158
 go_upto_region 1 with(fail)
 refine Ab w (Bc w.heap.size #[K,.slice p len cap,A,R,n,d,.slice q m vc,E] 190<|Bz) ?_
 rintro W1 hW z2 hL
 obtain⟨⟨b1,yb1,k1,f1⟩,-⟩:=id hL
 clear k1 f1
 refine Bw 40 42 hW hL ?_
 iterate 5 refine dA ?_
 iterate 4 refine gA ?_
 refine pA ?_
 refine dA ?_
 iterate 4 refine gA ?_
 refine pA ?_
 refine dA ?_
 iterate 4 refine gA ?_
 refine pA ?_
 refine dA ?_
 iterate 3 refine gA ?_
 refine cG (fun hp hx W' hC=>H_c1.out W' (hW.trans (hC.1.of_priv hW.size))) ?_
 refine gA ?_
 refine pA ?_
 refine dA ?_
 iterate 8
  apply Ai (p:=true) (c:=undef) (hg:=rfl) (hd:=rfl) (hal:=rfl)
  ·intro v W' h
   simp at h
   simp
   exact h
  ·intro hp hx
   exfalso
   simp at hx
   omega
 apply An (c:= .bool false) (hg:=rfl) (hal:=rfl)
 ·intro a W' hC hE
  have hE1:=hE 32 (by simp[Oper.looksAt,Op.operands])
  simp[Af,Det,hK1] at hE1
  simp[go_sem,Act.eval,hE1]
 refine dA ?_
 clear hW hL b1
 rintro W3 hW z4 hL
 simp only[ndR]
 intros
 repeat (rename Am _ _ _ _=>hgd;clear hgd)
 simp only[ndS]
 refine wpList_nil ?_
 obtain⟨⟨b1,yb1,k1,f1⟩,-⟩:=hL
 go_wp2
 refine bodyPost_ret (v:= .bool false) (by simp[results,Tryz.results158,go_sem,k1,f1,yb1]) rfl ⟨rfl,Aa⟩
end Go.Proofs.YtdeghcgakkhbmaaGreat
namespace Go.Proofs.YtdeghcgakkhbmaaGreat
open Go.RowKit
structure Aw where
 K:Int
 runs:List Ah
 A:Int
 R:Int
 n:Int
 d:Int
 raw:List Int
 E:Int
def C9 (s:Aw) (p q:Option Addr) (cap vc:Nat):Array Value:= #[s.K,.slice p s.runs.length cap,s.A,s.R,s.n,s.d,.slice q s.raw.length vc,s.E]
structure C0 (w:World) (s:Aw) (p q:Option Addr):Prop where
 runs:Al w p s.runs
 raw:A3 w q s.raw
 fewR:s.runs.length<=300
 fewV:s.raw.length<=300
theorem C0.below {w w':World} {s:Aw} {p q:Option Addr} (h:C0 w s p q) (hb:Below w.heap.size w w'):C0 w' s p q:=⟨h.runs.below hb,h.raw.below hb,h.fewR,h.fewV⟩
def Bv (l:List Ah):Int:=atV l 0
def C8 (l:List Ah):Int:=atV l (cnt l-1)
def Jd (s:Aw):Bool:=Cy s.A s.R s.n s.d&&Hw s.A s.R s.n s.d 0 (C8 s.runs-Bv s.runs)&&s.raw.isEmpty
def Lh (s:Aw):Bool:=
 if s.K=1 then s.n==0&&Jd s
 else if s.K=2 then s.n !=0&&(s.R==0&&Jd s)
 else if s.K=3 then s.R !=0&&Jd s
 else if s.K=4 then Ku s.A s.R s.n s.d&&(s.raw.length:Int)==cnt s.runs&&s.raw.all Ay
 else false
def Cr (s:Aw):Bool:=Et s.runs&&(decide (0<=s.E)&&decide (s.E<=1099511627776)&&Lh s)
theorem D0 {l:List Ah} (h:Cf l):1<=cnt l/\cnt l<=256:=by
 refine⟨?_,h.count⟩
 have:=h.some'
 cases l with
 |nil=>simp at this
 |cons r l=>
  have a:=(h.each r (by simp)).c0
  have b:=Se l fun r hr=>h.each r (by simp[hr])
  simp only[cnt];omega
theorem Ov {l:List Ah} (h:Cf l) {i:Int} (h0:0<=i) (h1:i<cnt l):∃v,atL l i=some v/\v∈Ae l/\atV l i=v/\atE l i=0:=by
 obtain⟨k,rfl⟩:∃k:Nat,i=(k:Int):=⟨i.toNat,by omega⟩
 have hc:∀r,r∈l->0<=r.c:=fun r hr=>by have:=(h.each r hr).c0;omega
 have hl:=C2 l hc
 have hk:k<(Ae l).length:=by omega
 have e:=Ng l k hc
 rw[List.getElem?_eq_getElem hk] at e
 exact⟨_,e,List.getElem_mem hk,J1 e,Z3 e⟩
theorem Su {l:List Ah} (h:Cf l) {i:Int} (h0:0<=i) (h1:i<cnt l):0<=atV l i/\atV l i<=281474976710656:=by
 obtain⟨v,_,hm,e,_⟩:=Ov h h0 h1
 rw[e];exact Xv l h v hm
theorem c_at (p:Option Addr) (cap:Nat) (l:List Ah) (i:Int) (w:World) (hl:Cf l) (h:Al w p l) (h0:0<=i) (h1:i<cnt l):
  Cb 154 #[.slice p l.length cap,i] w (.tuple #[.int .i64 (atV l i),.int .i64 0]):=by
 obtain⟨v,e,_,_,e0⟩:=Ov hl h0 h1
 have:=at_w p cap l i w hl h h0 (by have:=hl.count;omega)
 rw[e0] at this
 exact this
theorem Ou {l:List Ah} (h:Cf l) {i j:Int} (h0:0<=i) (h1:i<=j) (h2:j<cnt l):atV l i<=atV l j:=by
 rcases Int.lt_or_eq_of_le h1 with hlt|rfl
 ·obtain⟨a,rfl⟩:∃k:Nat,i=(k:Int):=⟨i.toNat,by omega⟩
  obtain⟨b,rfl⟩:∃k:Nat,j=(k:Int):=⟨j.toNat,by omega⟩
  have hc:∀r,r∈l->0<=r.c:=fun r hr=>by have:=(h.each r hr).c0;omega
  have hl:=C2 l hc
  have hp:=Ho l h.each h.chain
  have ha:a<(Ae l).length:=by omega
  have hb:b<(Ae l).length:=by omega
  have e1:=Ng l a hc
  have e2:=Ng l b hc
  rw[List.getElem?_eq_getElem ha] at e1
  rw[List.getElem?_eq_getElem hb] at e2
  rw[J1 e1,J1 e2]
  exact Int.le_of_lt (List.pairwise_iff_getElem.1 hp a b ha hb (by omega))
 ·exact Int.le_refl _
theorem Lq (p:Option Addr) (cap:Nat) (l:List Ah) (w:World) (hl:Cf l) (h:Al w p l):
  Cb 155 #[.slice p l.length cap] w (.int .i64 (cnt l)):=by
 have:=c_rcount p cap l w (by have:=hl.few;omega) h
 rw[if_pos ((Ei l).2 hl)] at this
 exact this
theorem c_span (s:Aw) (p q:Option Addr) (cap vc:Nat) (w:World) (hl:Cf s.runs) (h:C0 w s p q):
  Cb 175 #[.agg (C9 s p q cap vc)] w (.tuple #[.int .i64 (Bv s.runs),.int .i64 (C8 s.runs-Bv s.runs)]):=by
 obtain⟨n0,n1⟩:=D0 hl
 exact span_w _ _ _ _ _ _ p q _ cap _ vc w (Bv s.runs) (C8 s.runs) (cnt s.runs) (Su hl (by omega) (by omega)) (Su hl (by omega) (by omega)) ⟨by omega,n1⟩
  (fun W hW=>c_at p cap s.runs 0 W hl (h.runs.below hW) (by omega) (by omega))
  (fun W hW=>Lq p cap s.runs W hl (h.runs.below hW))
  (fun W hW=>c_at p cap s.runs (cnt s.runs-1) W hl (h.runs.below hW) (by omega) (by omega))
theorem c_lineIs (s:Aw) (p q:Option Addr) (cap vc:Nat) (w:World) (hl:Cf s.runs) (h:C0 w s p q):
  Cb 188 #[.agg (C9 s p q cap vc)] w (.bool (Jd s)):=by
 obtain⟨n0,n1⟩:=D0 hl
 have hs:=fun W (hW:Below w.heap.size w W)=>c_span s p q cap vc W hl (h.below hW)
 have hf:=Su hl (show (0:Int)<=0 by omega) (by omega)
 have hla:=Su hl (show 0<=cnt s.runs-1 by omega) (by omega)
 have hm:=Ou hl (show (0:Int)<=0 by omega) (show 0<=cnt s.runs-1 by omega) (by omega)
 unfold Jd
 cases hL:Cy s.A s.R s.n s.d with
 |false=>
  exact lineis_no _ _ _ _ _ _ p q _ cap _ vc w _ _ 0 0 hs (fun W _=>c_Ends_no s.A s.R s.n s.d 0 _ W hL)
 |true=>
  have hE:=fun W (_:Below w.heap.size w W)=>c_Ends s.A s.R s.n s.d 0 (C8 s.runs-Bv s.runs) W (Jv.1 hL) (by omega) (by unfold C8 Bv;omega) (by unfold C8 Bv;omega)
  cases hO:Hw s.A s.R s.n s.d 0 (C8 s.runs-Bv s.runs) with
  |false=>
   rw[hO] at hE
   exact Y5 _ _ _ _ _ _ p q _ cap _ vc w _ _ _ _ hs hE
  |true=>
   rw[hO] at hE
   cases hr:s.raw with
   |nil=>
    have hz:s.raw.length=0:=by rw[hr];rfl
    unfold C9 at hs⊢
    rw[hz] at hs⊢
    exact lineis_yes _ _ _ _ _ _ p q _ cap 0 vc w _ _ _ _ hs hE
   |cons x l=>exact lineis_raw _ _ _ _ _ _ p q _ cap _ vc w _ _ _ _ (by rw[hr];simp) hs hE
theorem Xb (s:Aw) (p q:Option Addr) (cap vc:Nat) (w:World) (h:C0 w s p q):
  Cb 158 #[.agg (C9 s p q cap vc)] w (.bool (Cr s)):=by
 have c1:=fun W (hW:Below w.heap.size w W)=>c_rcheck p cap s.runs W (by have:=h.fewR;omega) (h.runs.below hW)
 unfold Cr
 by_cases hK:1<=s.K/\s.K<=4
 ·cases hr:Et s.runs with
  |false=>
   rw[hr] at c1
   exact is_runs _ _ _ _ _ _ p q _ cap _ vc w c1
  |true=>
   rw[hr] at c1
   have hl:=(Ei s.runs).1 hr
   have hli:=fun W (hW:Below w.heap.size w W)=>c_lineIs s p q cap vc W hl (h.below hW)
   rw[Bool.true_and]
   have hk:s.K=1∨s.K=2∨s.K=3∨s.K=4:=by omega
   unfold Lh
   rcases hk with e|e|e|e
   ·rw[if_pos e]
    unfold C9 at hli⊢
    rw[e] at hli⊢
    refine is_1 0 _ _ _ _ _ p q _ cap _ vc w _ c1 ?_
    intro W hW
    by_cases hn:s.n=0
    ·have hli':=fun W' (hW':Below W.heap.size W W')=>hli W' (hW.trans (hW'.mono hW.size))
     rw[hn] at hli'⊢
     simpa using kind1_flat _ _ _ 0 _ _ p q _ cap _ vc W _ hli'
    ·have:(s.n==0)=false:=by simpa using hn
     rw[this]
     exact kind1_no _ _ _ _ _ _ p q _ cap _ vc W true this
   ·rw[if_neg (by omega),if_pos e]
    unfold C9 at hli⊢
    rw[e] at hli⊢
    refine is_2 0 _ _ _ _ _ p q _ cap _ vc w _ c1 ?_
    intro W hW
    have hli':=fun W' (hW':Below W.heap.size W W')=>hli W' (hW.trans (hW'.mono hW.size))
    by_cases hn:s.n=0
    ·rw[hn]
     exact kind2_flat _ _ _ 0 _ _ p q _ cap _ vc W true
    ·have hn':(s.n !=0)=true:=by simpa using hn
     rw[hn',Bool.true_and]
     by_cases hR:s.R=0
     ·rw[hR] at hli'⊢
      simpa using kind2_tilt _ _ 0 _ _ _ p q _ cap _ vc W _ hn' hli'
     ·have hR':(s.R==0)=false:=by simpa using hR
      rw[hR']
      exact kind2_free _ _ _ _ _ _ p q _ cap _ vc W true hn' hR'
   ·rw[if_neg (by omega),if_neg (by omega),if_pos e]
    unfold C9 at hli⊢
    rw[e] at hli⊢
    refine is_3 0 _ _ _ _ _ p q _ cap _ vc w _ c1 ?_
    intro W hW
    have hli':=fun W' (hW':Below W.heap.size W W')=>hli W' (hW.trans (hW'.mono hW.size))
    by_cases hR:s.R=0
    ·rw[hR]
     exact kind3_no _ _ 0 _ _ _ p q _ cap _ vc W true
    ·have hR':(s.R !=0)=true:=by simpa using hR
     rw[hR',Bool.true_and]
     exact kind3_free _ _ _ _ _ _ p q _ cap _ vc W _ hR' hli'
   ·rw[if_neg (by omega),if_neg (by omega),if_neg (by omega),if_pos e]
    unfold C9
    rw[e]
    refine is_4 0 _ _ _ _ _ p q _ cap _ vc w _ c1 ?_
    intro W hW
    have:=rawis_w 4 s.A s.R s.n s.d s.E p q s.runs.length cap s.raw.length vc W (cnt s.runs) (!(s.raw.all Ay))
     (fun W' hW'=>Lq p cap s.runs W' hl (h.runs.below (hW.trans (hW'.mono hW.size))))
     (fun W' hW'=>c_contains q vc s.raw W' (by have:=h.fewV;omega) (h.raw.below (hW.trans (hW'.mono hW.size))))
    rw[Bool.not_not] at this
    exact this
 ·have hk:Lh s=false:=by
   unfold Lh
   rw[if_neg (by omega),if_neg (by omega),if_neg (by omega),if_neg (by omega)]
  rw[hk]
  simp only[Bool.and_false]
  exact is_kind _ _ _ _ _ _ p q _ cap _ vc w _ hK c1
theorem Al.alloc {w:World} {p:Option Addr} {l:List Ah} (h:Al w p l) (o:Obj):Al (w.alloc o) p l:=h.below ((Below.refl _ _).alloc (Nat.le_refl _) o)
theorem Al.calls {w w':World} {p:Option Addr} {l:List Ah} (h:Al w p l) (hb:Below w.heap.size w w'):Al w' p l:=h.below hb
theorem Al.set {w:World} {g x o i:Nat} {v:Value} {l:List Ah} (h:Al w (some ⟨g,x,none⟩) l) (hne:g≠o):Al (w.setCell ⟨o,i,none⟩ v) (some ⟨g,x,none⟩) l:=⟨fun k r hr=>by
 obtain⟨b,y,e,h1,h2,h3⟩:=h.at' k r hr
 cases e
 have hc:∀z,(w.setCell ⟨o,i,none⟩ v).cell? ⟨g,z,none⟩=w.cell? ⟨g,z,none⟩:=by
  intro z
  have:=heap_setCell_other w ⟨o,i,none⟩ g v hne
  simp only[World.cell?,this]
 exact⟨g,x,rfl,(hc _).trans h1,(hc _).trans h2,(hc _).trans h3⟩⟩
def lpRel (K A R n d E:Int) (p q:Option Addr) (len cap m vc:Nat) (w:World) (i j x lo hi:Int) (P:List Ah) (SS:Nat->Int) (g o:Nat) (a':Act) (W:World):Prop:=
 Below w.heap.size w W/\Blk W w.heap.size #[.int .i64 K,.slice p len cap,.int .i64 A,.int .i64 R,.int .i64 n,.int .i64 d,.slice q m vc,.int .i64 E] 190/\Blk W (w.heap.size+1) #[.int .i64 0,.int .i64 0,.int .i64 0,.int .i64 0,.int .u64 0] 260/\Al W (some ⟨g,0,none⟩) P/\∃k:Nat,(∃u:Nat->Value,a'= {tmps:= #[u 0,u 1,u 2,.pointer (some ⟨w.heap.size,0,none⟩),u 4,u 5,.pointer (some ⟨w.heap.size+1,0,none⟩),.int .i64 x,u 8,u 9,u 10,u 11,u 12,u 13,u 14,.pointer (some ⟨o,0,none⟩),u 16,u 17,u 18,u 19,u 20,u 21,u 22,u 23,u 24,u 25,u 26,u 27,u 28,u 29,u 30,u 31,u 32,u 33,u 34,u 35,u 36,u 37,u 38,u 39,u 40,u 41,u 42,u 43,u 44,u 45,u 46,u 47,u 48,u 49,u 50,u 51,u 52,u 53,u 54,u 55,u 56,u 57,u 58,u 59,u 60,u 61,u 62,u 63,u 64,u 65,u 66,u 67,u 68,u 69,u 70,u 71,u 72,u 73,.slice (some ⟨g,0,none⟩) P.length P.length,.int .i64 (P.length:Int),.int .i64 (k:Int),u 77,u 78,u 79,u 80,u 81,u 82,u 83,u 84,u 85,u 86,u 87,u 88,u 89,u 90,u 91,u 92,u 93,u 94,u 95,u 96,u 97,u 98,u 99,u 100,u 101,u 102,u 103,u 104],defers:= []})/\k<=P.length/\Blk W o #[.int .i64 (j-i),.int .i64 lo,.int .i64 hi,.int .i64 (hiW (SS k)),.int .u64 (loW (SS k))] 260
theorem Tryz.infoInt :(Tryz.prog.info? 2).map (fun i=>(i.zero,i.size,i.bytes))=some (some (.int .i64 0),1,8):=by kernel_rfl
theorem A3.part {w:World} {vb vo i n:Nat} {raw:List Int} (h:A3 w (some ⟨vb,vo,none⟩) raw) (k:Nat) (v:Value) (hv:(((raw.drop i).take n).map (Value.int .i64))[k]? =some v):w.cell? ((⟨vb,vo+i,none⟩:Addr).add k)=some v:=by
 have hadd:(⟨vb,vo+i,none⟩:Addr).add k=⟨vb,vo+i+k,none⟩:=by unfold Addr.add;split<;>simp_all
 rw[hadd]
 simp only[List.getElem?_map,Option.map_eq_some_iff] at hv
 obtain⟨x,hx,rfl⟩:=hv
 have hx':raw[i+k]? =some x:=by
  rw[List.getElem?_take] at hx
  split at hx
  ·rwa [List.getElem?_drop] at hx
  ·cases hx
 obtain⟨b,y,e,hc⟩:=h.at' _ x hx'
 cases e
 rw[Nat.add_assoc];exact hc
def rpRel (w:World) (i j:Nat) (lo hi:Int) (V:List Int) (SS:Nat->Int) (o:Nat) (a':Act) (W:World):Prop:=
 Below w.heap.size w W/\Blk W (w.heap.size+1) #[.int .i64 0,.int .i64 0,.int .i64 0,.int .i64 0,.int .u64 0] 260/\Blk W (w.heap.size+1+1) (V.map (Value.int .i64)).toArray 2/\∃k:Nat,(∃u:Nat->Value,a'= {tmps:= #[u 0,u 1,u 2,u 3,u 4,u 5,.pointer (some ⟨w.heap.size+1,0,none⟩),u 7,.pointer (some ⟨o,0,none⟩),u 9,u 10,u 11,u 12,u 13,u 14,u 15,u 16,u 17,u 18,u 19,u 20,u 21,u 22,u 23,u 24,u 25,u 26,u 27,u 28,u 29,u 30,.slice (some ⟨w.heap.size+1+1,0,none⟩) V.length V.length,.int .i64 (V.length:Int),.int .i64 (k:Int),u 34,u 35,u 36,u 37,u 38,u 39,u 40,u 41,u 42,u 43,u 44,u 45,u 46,u 47],defers:= []})/\k<=V.length/\Blk W o #[.int .i64 ((j:Int)-(i:Int)),lo,hi,.int .i64 (hiW (SS k)),.int .u64 (loW (SS k))] 260
def He:List Int->Int
 | []=>0
 |x::l=>x+He l
def slice (l:List Int) (i j:Nat):List Int:=(l.take j).drop i
theorem E9 (a b:List Ah):Ae (a++b)=Ae a++Ae b:=by
 induction a with
 |nil=>rfl
 |cons r a ih=>simp[Ae,ih]
def Mj (s:Aw) (t:Int):Int:=Be s.A s.R s.n s.d (t-Bv s.runs)
def Jo (s:Aw):List Int:=if s.K=4 then s.raw else (Ae s.runs).map (Mj s)
def partA (W:List Int):Array Value:= #[.int .i64 W.length,.int .i64 (Yy W),.int .i64 (Y0 W),.int .i64 (hiW (He W)),.int .u64 (loW (He W))]
theorem Gk {v:Int}:Ay v=true↔-2305844108725321728<=v/\v<=2305844108725321728:=by unfold Ay;simp
theorem Rx {A R n d t t':Int} (hd:1<=d) (hn:0<=n) (h:t<=t'):Be A R n d t<=Be A R n d t':=by
 unfold Be
 have:=Int.mul_le_mul_of_nonneg_left h hn
 have:=Int.ediv_le_ediv (show 0<d by omega) (show n*t+R<=n*t'+R by omega)
 omega
theorem N9 {A R n d t t':Int} (hd:1<=d) (hn:n<=0) (h:t<=t'):Be A R n d t'<=Be A R n d t:=by
 unfold Be
 have:=Int.mul_le_mul_of_nonpos_left hn h
 have:=Int.ediv_le_ediv (show 0<d by omega) (show n*t'+R<=n*t+R by omega)
 omega
theorem Qc {A R n d a t b:Int} (hd:1<=d) (h1:a<=t) (h2:t<=b):
  min (Be A R n d a) (Be A R n d b)<=Be A R n d t/\Be A R n d t<=max (Be A R n d a) (Be A R n d b):=by
 rcases Int.le_total 0 n with hn|hn
 ·have:=Rx (A:=A) (R:=R) hd hn h1
  have:=Rx (A:=A) (R:=R) hd hn h2
  omega
 ·have:=N9 (A:=A) (R:=R) hd hn h1
  have:=N9 (A:=A) (R:=R) hd hn h2
  omega
structure Oz (s:Aw):Prop where
 runs:Cf s.runs
 line:Ni s.A s.R s.n s.d
 ends:Hw s.A s.R s.n s.d 0 (C8 s.runs-Bv s.runs)=true
theorem Ot {l:List Ah} (h:Cf l) {k:Nat} (hk:(k:Int)<cnt l):(Ae l)[k]? =some (atV l k):=by
 obtain⟨v,e,_,e',_⟩:=Ov h (show (0:Int)<=k by omega) hk
 rw[Ng l k fun r hr=>by have:=(h.each r hr).c0;omega] at e
 rw[e,e']
theorem Bk {l:List Ah} (h:Cf l):((Ae l).length:Int)=cnt l:=C2 l fun r hr=>by have:=(h.each r hr).c0;omega
theorem Ju {l:List Ah} (h:Cf l) {t:Int} (ht:t∈Ae l):Bv l<=t/\t<=C8 l/\0<=t/\t<=281474976710656:=by
 obtain⟨k,hk⟩:=List.getElem?_of_mem ht
 have hlt:k<(Ae l).length:=by rw[List.getElem?_eq_some_iff] at hk;exact hk.1
 have hl:=Bk h
 rw[Ot h (by omega)] at hk
 simp only[Option.some.injEq] at hk
 subst hk
 have:=Su h (show (0:Int)<=k by omega) (by omega)
 exact⟨Ou h (by omega) (by omega) (by omega),Ou h (by omega) (by omega) (by omega),this.1,this.2⟩
theorem Sa {l:List Ah} (h:Cf l):0<=Bv l/\Bv l<=281474976710656:=Su h (by omega) (by have:=D0 h;omega)
theorem Oz.back {s:Aw} (h:Oz s) {t:Int} (h1:Bv s.runs<=t) (h2:t<=C8 s.runs):Ay (Mj s t)=true:=by
 have e:=h.ends
 unfold Hw at e
 simp only[Bool.and_eq_true,Gk] at e
 have:=Qc (A:=s.A) (R:=s.R) (n:=s.n) (d:=s.d) h.line.d0 (show 0<=t-Bv s.runs by omega) (show t-Bv s.runs<=C8 s.runs-Bv s.runs by omega)
 rw[Gk]
 unfold Mj
 omega
def sumP (s:Aw) (P:List Ah):Int:=He ((Ae P).map (Mj s))
theorem raw_back {s:Aw} (h:s.raw.all Ay=true) {v:Int} (hv:v∈s.raw): -2305844108725321728<=v/\v<=2305844108725321728:=Gk.1 (List.all_eq_true.1 h v hv)
def partOut (s:Aw) (a b:Int):Array Value×Int:=
 if Cr s then
  if clipI s.runs a<clipJ s.runs a b then (partA (slice (Jo s) (clipI s.runs a).toNat (clipJ s.runs a b).toNat),0)
  else (#[.int .i64 0,.int .i64 0,.int .i64 0,.int .i64 0,.int .u64 0],9)
 else (#[.int .i64 0,.int .i64 0,.int .i64 0,.int .i64 0,.int .u64 0],210)
theorem Bp {s:Aw} (h:Cr s=true):Cf s.runs:=by
 unfold Cr at h
 rw[Bool.and_eq_true] at h
 exact(Ei _).1 h.1
theorem O9 {s:Aw} (h:Cr s=true):Lh s=true:=by
 unfold Cr at h
 simp only[Bool.and_eq_true] at h
 exact h.2.2
theorem M7 {s:Aw} (hl:Cf s.runs) (h:Jd s=true):Oz s:=by
 unfold Jd at h
 simp only[Bool.and_eq_true] at h
 exact⟨hl,Jv.1 h.1.1,h.1.2⟩
theorem My {s:Aw} (h:Cr s=true):(s.K=1∨s.K=2∨s.K=3)/\Oz s∨s.K=4/\(s.raw.length:Int)=cnt s.runs/\s.raw.all Ay=true:=by
 have hl:=Bp h
 have hk:=O9 h
 unfold Lh at hk
 split at hk
 ·simp only[Bool.and_eq_true] at hk
  exact .inl ⟨by omega,M7 hl hk.2⟩
 ·split at hk
  ·simp only[Bool.and_eq_true] at hk
   exact .inl ⟨by omega,M7 hl hk.2.2⟩
  ·split at hk
   ·simp only[Bool.and_eq_true] at hk
    exact .inl ⟨by omega,M7 hl hk.2⟩
   ·split at hk
    ·simp only[Bool.and_eq_true,beq_iff_eq] at hk
     exact .inr ⟨by omega,hk.1.2,hk.2⟩
    ·cases hk
theorem value_raw (A R n d E:Int) (p:Option Addr) (vb vo len cap m vc:Nat) (w:World) (i:Nat) (v:Int) (hi:i<m) (hm:m<=1000000) (h:w.cell? ⟨vb,vo+i,none⟩=some (v)):
  Cb 161 #[.agg #[.int .i64 4,.slice p len cap,A,R,n,d,.slice (some ⟨vb,vo,none⟩) m vc,E],.int .i64 (i:Int)] w (v):=by
 have hlt:=Ap h
 have hc':=fun W (hW:Below w.heap.size w W)=>((Dc hW).1 vb (vo+i) hlt).trans h
 replace hc':=Hd hc'
 clear h
 go_enter Tryz.func161,Tryz.ntmps161
 go_upto_region 1 with(fail)
 refine Bd (fun W'=>Below w.heap.size w W'/\Blk W' w.heap.size #[.int .i64 4,.slice p len cap,A,R,n,d,.slice (some ⟨vb,vo,none⟩) m vc,E] 190) ⟨Aa,Bo⟩ ?_
 rintro W1 ⟨hW,b1⟩
 have hc:=hc'.out W1 hW
 have k1:=b1.cell
 have f1:=b1.frozen
 go_wp2
 refine bodyPost_ret (v:=v) (by simp[results,Tryz.results161,go_sem]) rfl ⟨rfl,hW⟩
theorem value_line (K A R n d E:Int) (p q:Option Addr) (len cap m vc:Nat) (w:World) (i x L t v er:Int) (hK:(K==4)=false) (hx:0<=x/\x<=281474976710656) (ht:0<=t/\t<=281474976710656)
  (c1:∀W,Below w.heap.size w W->Cb 175 #[.agg #[K,.slice p len cap,A,R,n,d,.slice q m vc,E]] W (.tuple #[x,L]))
  (c2:∀W,Below w.heap.size w W->Cb 154 #[.slice p len cap,i] W (.tuple #[t,.int .i64 0]))
  (c3:∀W,Below w.heap.size w W->Cb 176 #[.agg #[A,R,n,d],.int .i64 (t-x)] W (.tuple #[v,er])):
  Cb 161 #[.agg #[K,.slice p len cap,A,R,n,d,.slice q m vc,E],i] w (v):=by
 have H_c1:=Hd c1
 clear c1
 have H_c2:=Hd c2
 clear c2
 have H_c3:=Hd c3
 clear c3
 go_enter Tryz.func161,Tryz.ntmps161
 go_upto_region 1 with(fail)
 refine Ab w (Bc w.heap.size #[K,.slice p len cap,A,R,n,d,.slice q m vc,E] 190<|Bz) ?_
 rintro W1 hW z2 ⟨⟨b1,yb1,k1,f1⟩,-⟩
 go_wp2_with fail
 refine(H_c1.out _ (Aa)).mono ?_
 rintro e w3 ⟨rfl,hb3⟩
 have z4:=hb3.size
 try simp at z4
 clear k1 f1
 refine Aj w w3 (Bc w.heap.size #[K,.slice p len cap,A,R,n,d,.slice q m vc,E] 190<|Bz) ?_
 clear b1 hW
 rintro hW z5 ⟨⟨b1,yb1,k1,f1⟩,-⟩
 clear hb3
 go_wp2_with fail
 refine(H_c2.out _ (Aa)).mono ?_
 rintro e w6 ⟨rfl,hb6⟩
 have z7:=hb6.size
 try simp at z7
 clear k1 f1
 refine Aj w w6 (Bc w.heap.size #[K,.slice p len cap,A,R,n,d,.slice q m vc,E] 190<|Bz) ?_
 clear b1 hW
 rintro hW z8 ⟨⟨b1,yb1,k1,f1⟩,-⟩
 clear hb6
 go_wp2_with fail
 refine(H_c3.out _ (Aa)).mono ?_
 rintro e w9 ⟨rfl,hb9⟩
 have z10:=hb9.size
 try simp at z10
 clear k1 f1
 refine Aj w w9 (Bc w.heap.size #[K,.slice p len cap,A,R,n,d,.slice q m vc,E] 190<|Bz) ?_
 clear b1 hW
 rintro hW z11 ⟨⟨b1,yb1,k1,f1⟩,-⟩
 clear hb9
 go_wp2
 refine bodyPost_ret (by simp[results,Tryz.results161,go_sem,k1,f1,yb1]) rfl ⟨rfl,by exact Aa⟩
def S7 (s:Aw) (i:Int):Int:=((Jo s)[i.toNat]?).getD 0
theorem Je {s:Aw} (h:Cr s=true):((Jo s).length:Int)=cnt s.runs:=by
 have hl:=Bp h
 unfold Jo
 rcases My h with⟨hk,_⟩|⟨hk,hn,_⟩
 ·rw[if_neg (by omega),List.length_map,Bk hl]
 ·rw[if_pos hk,hn]
theorem c_segValue (s:Aw) (p q:Option Addr) (cap vc:Nat) (i:Int) (w:World) (h:C0 w s p q) (hs:Cr s=true) (h0:0<=i) (h1:i<cnt s.runs):
  Cb 161 #[.agg (C9 s p q cap vc),i] w (.int .i64 (S7 s i)):=by
 have hl:=Bp hs
 rcases My hs with⟨hk,hline⟩|⟨hk,hn,hback⟩
 ·have hK:(s.K==4)=false:=by simp;omega
  have ht:=Su hl h0 h1
  have hx:=Sa hl
  have m1:Bv s.runs<=atV s.runs i:=Ou hl (by omega) h0 h1
  have m2:atV s.runs i<=C8 s.runs:=Ou hl h0 (by omega) (by omega)
  have hA:=fun W (_:Below w.heap.size w W)=>c_At s.A s.R s.n s.d (atV s.runs i-Bv s.runs) W hline.line (by omega) (by omega)
  have hb:=hline.back m1 m2
  unfold Mj at hb
  rw[hb] at hA
  have e:S7 s i=Be s.A s.R s.n s.d (atV s.runs i-Bv s.runs):=by
   unfold S7 Jo
   rw[if_neg (by omega),List.getElem?_map,Ot hl (by omega),Int.toNat_of_nonneg h0]
   rfl
  rw[e]
  exact value_line _ _ _ _ _ _ p q _ cap _ vc w i _ _ _ _ _ hK hx ht (fun W hW=>c_span s p q cap vc W hl (h.below hW)) (fun W hW=>c_at p cap s.runs i W hl (h.runs.below hW) h0 h1) hA
 ·obtain⟨k,rfl⟩:∃k:Nat,i=(k:Int):=⟨i.toNat,by omega⟩
  have hk':k<s.raw.length:=by omega
  obtain⟨vb,vo,hq,hc⟩:=h.raw.at' k _ (List.getElem?_eq_getElem hk')
  subst hq
  have e:S7 s k=s.raw[k]:=by
   unfold S7 Jo
   rw[if_pos hk]
   simp[hk']
  rw[e]
  unfold C9
  rw[hk]
  exact value_raw _ _ _ _ _ p vb vo _ cap _ vc w k _ hk' (by have:=h.fewV;omega) hc
def segAtV (s:Aw) (t:Int):Int:=if Cr s then ((findL s.runs t).map (S7 s)).getD 0 else 0
def segAtE (s:Aw) (t:Int):Int:=if Cr s then (if (findL s.runs t).isSome then 0 else 4) else 210
def CloneR (w:World) (p:Option Addr) (l:List Ah) (e:Ending) (w':World):Prop:=∃p' cap',e= .returned (.slice p' l.length cap')/\Below w.heap.size w w'/\Al w' p' l/\l.length<=cap'/\∀a,p'=some a->w.heap.size<=a.block
def CloneI (w:World) (p:Option Addr) (l:List Int) (e:Ending) (w':World):Prop:=∃p' cap',e= .returned (.slice p' l.length cap')/\Below w.heap.size w w'/\A3 w' p' l/\l.length<=cap'/\∀a,p'=some a->w.heap.size<=a.block
theorem Ln {w w':World} {o:Obj} {n c:Nat} (h:(w.alloc o).grownBy w' (Value.slice (some ⟨w.heap.size,0,none⟩) n c).ownBlock):Below w.heap.size w w':=
 ⟨h.os,h.tape,h.output,by have:=h.size;simp at this;omega,fun k hk=>by
  rw[h.block k (by simp;omega) (by simp[Value.ownBlock];omega)]
  exact Below.heap_alloc w o k hk⟩
theorem ints_flat {w:World} {a:Addr} {l:List Int} (h:A3 w (some a) l) (j:Nat) (u:Value) (hu:(l.map (Value.int .i64))[j]? =some u):w.cell? (a.add j)=some u:=by
 simp only[List.getElem?_map,Option.map_eq_some_iff] at hu
 obtain⟨x,hx,rfl⟩:=hu
 obtain⟨b,o,e,hc⟩:=h.at' j x hx
 simp at e
 subst e
 have hadd:(⟨b,o,none⟩:Addr).add j=⟨b,o+j,none⟩:=by unfold Addr.add;split<;>simp_all
 rw[hadd];exact hc
theorem Eh {cur:Array Value} {xs:List Value} {k:Nat} (h:cur.toList.take k=xs) {j:Nat} {u:Value} (hu:xs[j]? =some u):cur[j]? =some u:=by
 rw[<-h,List.getElem?_take] at hu
 split at hu
 ·simpa using hu
 ·cases hu
theorem Lo {w:World} {g k:Nat} {t:TypeId} {cur:Array Value} {l:List Ah} (hb:w.heap[g]? =some (.cells cur t (0,0))) (ht:cur.toList.take k=As l):Al w (some ⟨g,0,none⟩) l:=⟨fun i r hr=>by
 obtain⟨a,b,c⟩:=Qs l i r hr
 have k:∀z,w.cell? ⟨g,z,none⟩=cur[z]? :=fun z=>cell_of_row w g z cur t (0,0) hb
 refine⟨g,0,rfl,?_,?_,?_⟩
 ·rw[k,Nat.zero_add];exact Eh ht a
 ·rw[k,Nat.zero_add];exact Eh ht b
 ·rw[k,Nat.zero_add];exact Eh ht c⟩
theorem Lp {w:World} {g k:Nat} {t:TypeId} {cur:Array Value} {l:List Int} (hb:w.heap[g]? =some (.cells cur t (0,0))) (ht:cur.toList.take k=l.map (Value.int .i64)):A3 w (some ⟨g,0,none⟩) l:=⟨fun i x hx=>by
 refine⟨g,0,rfl,?_⟩
 rw[cell_of_row w g _ cur t (0,0) hb,Nat.zero_add]
 exact Eh ht (by simp[hx])⟩
def kindL (A R n d:Int):Int:=if Cy A R n d=true then (if n=0 then 1 else if R=0 then 2 else 3) else 0
theorem Al.set' {w:World} {p:Option Addr} {o i:Nat} {v:Value} {l:List Ah} (h:Al w p l) (hne:∀a,p=some a->a.block≠o):Al (w.setCell ⟨o,i,none⟩ v) p l:=⟨fun k r hr=>by
 obtain⟨b,y,e,h1,h2,h3⟩:=h.at' k r hr
 have hc:∀z,(w.setCell ⟨o,i,none⟩ v).cell? ⟨b,z,none⟩=w.cell? ⟨b,z,none⟩:=by
  intro z
  have:=heap_setCell_other w ⟨o,i,none⟩ b v (hne _ e)
  simp only[World.cell?,this]
 exact⟨b,y,e,(hc _).trans h1,(hc _).trans h2,(hc _).trans h3⟩⟩
theorem A3.set' {w:World} {p:Option Addr} {o i:Nat} {v:Value} {l:List Int} (h:A3 w p l) (hne:∀a,p=some a->a.block≠o):A3 (w.setCell ⟨o,i,none⟩ v) p l:=⟨fun k r hr=>by
 obtain⟨b,y,e,h1⟩:=h.at' k r hr
 have hc:∀z,(w.setCell ⟨o,i,none⟩ v).cell? ⟨b,z,none⟩=w.cell? ⟨b,z,none⟩:=by
  intro z
  have:=heap_setCell_other w ⟨o,i,none⟩ b v (hne _ e)
  simp only[World.cell?,this]
 exact⟨b,y,e,(hc _).trans h1⟩⟩
theorem A3.rex {w w':World} {p:Option Addr} {l:List Int} (h:A3 w p l) (hr:Rex [] w w'):A3 w' p l:=h.below hr.below
def CR (B:Nat) (l:List Ah):Bi:=fun v w=>∃p' cap',v= .slice p' l.length cap'/\Al w p' l/\l.length<=cap'/\∀a,p'=some a->B<=a.block
def CI (B:Nat) (l:List Int):Bi:=fun v w=>∃p' cap',v= .slice p' l.length cap'/\A3 w p' l/\l.length<=cap'/\∀a,p'=some a->B<=a.block
theorem CR.closed (B:Nat) (l:List Ah):A9 [] (CR B l):=fun _ _ _ hr ⟨p',c',e,h,k⟩=>⟨p',c',e,h.rex hr rfl,k⟩
theorem CI.closed (B:Nat) (l:List Int):A9 [] (CI B l):=fun _ _ _ hr ⟨p',c',e,h,k⟩=>⟨p',c',e,h.rex hr,k⟩
end Go.Proofs.YtdeghcgakkhbmaaGreat
