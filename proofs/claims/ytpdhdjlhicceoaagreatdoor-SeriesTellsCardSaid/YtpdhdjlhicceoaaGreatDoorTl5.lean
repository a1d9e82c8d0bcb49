/- Parts of the proof that follows. No condition. -/
import Derived.Laws.MakeOwn
import Derived.Test.YtpdhdjlhicceoaaGreatDoorTl4
set_option maxRecDepth 100000
set_option maxHeartbeats 8000000
set_option linter.unusedSimpArgs false
set_option linter.unusedVariables false
namespace Go.Proofs.YtpdhdjlhicceoaaGreatDoor
open Go.RowKit
def mx (x y:Int):Int:=if y>x then y else x
def mn (x y:Int):Int:=if y<x then y else x
theorem mn_spec (x y:Int):mn x y<=x/\mn x y<=y/\(mn x y=x∨mn x y=y):=by unfold mn;split<;>omega
def pieceOf (r:RunT) (i j:Int):List RunT:=if mx i 0<mn j r.c then [⟨r.f+r.s*mx i 0,r.s,mn j r.c-mx i 0⟩] else []
def piecesL:List RunT->Int->Int->List RunT
 | [],_,_=> []
 |r::l,i,j=>pieceOf r i j++piecesL l (i-r.c) (j-r.c)
def flatCells:List RunT->List Value
 | []=> []
 |r::l=> .int .i64 r.f:: .int .i64 r.s:: .int .i64 r.c::flatCells l
def runCells (l:List RunT):Array Value:=(flatCells l).toArray
theorem length_flatCells :∀l,(flatCells l).length=l.length*3
 | []=>rfl
 |r::l=>by simp only[flatCells,List.length_cons,length_flatCells l];omega
theorem flat_at :∀(l:List RunT) (i:Nat) (r:RunT),l[i]? =some r->(flatCells l)[i*3]? =some (.int .i64 r.f)/\(flatCells l)[i*3+1]? =some (.int .i64 r.s)/\(flatCells l)[i*3+2]? =some (.int .i64 r.c)
 | [],i,r,h=>by simp at h
 |a::l,0,r,h=>by
  simp at h
  subst h
  simp[flatCells]
 |a::l,i+1,r,h=>by
  have:=flat_at l i r (by simpa using h)
  rw[show (i+1)*3=i*3+3 by omega]
  simpa [flatCells] using this
theorem flat_mem :∀(l:List RunT) (v:Value),v∈flatCells l->∃x,v= .int .i64 x
 | [],v,h=>by simp[flatCells] at h
 |r::l,v,h=>by
  simp only[flatCells,List.mem_cons] at h
  rcases h with rfl|rfl|rfl|h
  ·exact⟨_,rfl⟩
  ·exact⟨_,rfl⟩
  ·exact⟨_,rfl⟩
  ·exact flat_mem l v h
theorem flat_at' (l:List RunT) (j:Nat) (v:Value) (h:(flatCells l)[j]? =some v):∃i r,l[i]? =some r/\((j=i*3/\v= .int .i64 r.f)∨(j=i*3+1/\v= .int .i64 r.s)∨(j=i*3+2/\v= .int .i64 r.c)):=by
 have hlt:j<l.length*3:=by
  rw[List.getElem?_eq_some_iff] at h
  rw[<-length_flatCells];exact h.1
 have hi:j/3<l.length:=by omega
 refine⟨j/3,l[j/3],List.getElem?_eq_getElem hi,?_⟩
 obtain⟨a,b,c⟩:=flat_at l (j/3) _ (List.getElem?_eq_getElem hi)
 have hm:j%3=0∨j%3=1∨j%3=2:=by omega
 rcases hm with m|m|m
 ·left
  have e:j=j/3*3:=by omega
  rw[<-e,h] at a
  exact⟨e,by simpa using a⟩
 ·right;left
  have e:j=j/3*3+1:=by omega
  rw[<-e,h] at b
  exact⟨e,by simpa using b⟩
 ·right;right
  have e:j=j/3*3+2:=by omega
  rw[<-e,h] at c
  exact⟨e,by simpa using c⟩
theorem RunsIn.flat {w:World} {a:Addr} {l:List RunT} (h:RunsIn w (some a) l) (j:Nat) (v:Value) (hv:(flatCells l)[j]? =some v):w.cell? (a.add j)=some v:=by
 obtain⟨i,r,hr,h'⟩:=flat_at' l j v hv
 obtain⟨b,o,e,c0,c1,c2⟩:=h.at' i r hr
 simp at e
 subst e
 have hadd:(⟨b,o,none⟩:Addr).add j=⟨b,o+j,none⟩:=by unfold Addr.add;split<;>simp_all
 rw[hadd]
 rcases h' with⟨rfl,rfl⟩|⟨rfl,rfl⟩|⟨rfl,rfl⟩
 ·exact c0
 ·exact c1
 ·exact c2
theorem Tryz.infoRun :(Tryz.prog.info? 69).map (fun i=>(i.zero,i.size,i.bytes))=some (some (.agg #[.int .i64 0,.int .i64 0,.int .i64 0]),3,24):=by kernel_rfl
theorem Blk.three {W:World} {g n:Nat} {L:List RunT} {t:TypeId} (h:Blk W g (runCells L) t) (hn:n<L.length):
  ∃a b c,W.cell? ⟨g,n*3,none⟩=some a/\W.cell? ⟨g,n*3+1,none⟩=some b/\W.cell? ⟨g,n*3+2,none⟩=some c:=by
 obtain⟨a,b,c⟩:=flat_at L n _ (List.getElem?_eq_getElem hn)
 have k:=h.cell
 exact⟨.int .i64 L[n].f,.int .i64 L[n].s,.int .i64 L[n].c,by rw[k];simpa [runCells] using a,by rw[k];simpa [runCells] using b,by rw[k];simpa [runCells] using c⟩
def piecesRel (p:Option Addr) (cap:Nat) (l:List RunT) (i j:Int) (w:World) (a':Act) (W:World):Prop:=
 Below w.heap.size w W/\∃k:Nat,(∃u:Nat->Value,a'= {tmps:= #[(.slice p l.length cap),.int .i64 (i-cnt (l.take k)),.int .i64 (j-cnt (l.take k)),u 3,u 4,u 5,u 6,.slice (some ⟨w.heap.size,0,none⟩) l.length l.length,.int .i64 ((piecesL (l.take k) i j).length:Int),u 9,u 10,u 11,u 12,u 13,u 14,u 15,u 16,u 17,u 18,(.slice p l.length cap),.int .i64 (l.length:Int),.int .i64 (k:Int),u 22,u 23,u 24,u 25,u 26,u 27,u 28,u 29,u 30,u 31,u 32,u 33,u 34,u 35,u 36,u 37,u 38,u 39,u 40,u 41,u 42,u 43,u 44,u 45,u 46,u 47,u 48,u 49,u 50,u 51,u 52,u 53,u 54,u 55,u 56,u 57,u 58,u 59,u 60,u 61,u 62,u 63,u 64],defers:= []})/\k<=l.length/\Blk W w.heap.size (runCells (piecesL (l.take k) i j++l.drop (piecesL (l.take k) i j).length)) 69
def PiecesOut (w:World) (l:List RunT) (v:Value) (w':World):Prop:=∃g,v= .slice (some ⟨g,0,none⟩) l.length l.length/\w.heap.size<=g/\RunsIn w' (some ⟨g,0,none⟩) l
structure IntsIn (w:World) (p:Option Addr) (l:List Int):Prop where
 at':∀(i:Nat) (x:Int),l[i]? =some x->∃b o,p=some ⟨b,o,none⟩/\w.cell? ⟨b,o+i,none⟩=some (.int .i64 x)
theorem IntsIn.below {w w':World} {p:Option Addr} {l:List Int} (h:IntsIn w p l) (hb:Below w.heap.size w w'):IntsIn w' p l:=⟨fun i r hr=>by
 obtain⟨b,o,e,h1⟩:=h.at' i r hr
 have hB:=(bcell hb).1
 exact⟨b,o,e,(hB b _ (cell_lt h1)).trans h1⟩⟩
theorem IntsIn.drew {w:World} {p:Option Addr} {l:List Int} (h:IntsIn w p l):IntsIn w.drew p l:=⟨h.at'⟩
def minL:List Int->Int
 | []=>0
 |x::l=>l.foldl mn x
def maxL:List Int->Int
 | []=>0
 |x::l=>l.foldl mx x
def minRel (p:Option Addr) (cap:Nat) (l:List Int) (w:World) (a':Act) (W:World):Prop:=
 Below w.heap.size w W/\∃(i:Nat) (m:Int),(∃u:Nat->Value,a'= {tmps:= #[(.slice p l.length cap),u 1,u 2,.int .i64 m,.int .i64 (i:Int),u 5,u 6,u 7,u 8,u 9,u 10,u 11,u 12,u 13,u 14,u 15,u 16,u 17,u 18,u 19,u 20,u 21,u 22,u 23,u 24],defers:= []})/\1<=i/\i<=l.length/\m=minL (l.take i)
def maxRel (p:Option Addr) (cap:Nat) (l:List Int) (w:World) (a':Act) (W:World):Prop:=
 Below w.heap.size w W/\∃(i:Nat) (m:Int),(∃u:Nat->Value,a'= {tmps:= #[(.slice p l.length cap),u 1,u 2,.int .i64 m,.int .i64 (i:Int),u 5,u 6,u 7,u 8,u 9,u 10,u 11,u 12,u 13,u 14,u 15,u 16,u 17,u 18,u 19,u 20,u 21,u 22,u 23,u 24],defers:= []})/\1<=i/\i<=l.length/\m=maxL (l.take i)
theorem c_sback (v:Int) (w:World):Cb 227 #[.int .i64 v] w (.bool (isBack v)):=by
 unfold isBack
 go_enter Tryz.func227,Tryz.ntmps227
 go_upto_region 1 with(fail)
 refine wp_cutB w (Bz) ?_
 rintro W1 hW z2 hL
 refine wp_regS 7 9 hW hL ?_
 iterate 3 refine dA ?_
 iterate 2 refine gA ?_
 refine pA ?_
 refine dA ?_
 clear hW hL
 rintro W3 hW z4 hL
 simp only[ndR]
 intros
 repeat (rename GDet _ _ _ _=>hgd;clear hgd)
 simp only[ndS]
 refine wpList_nil ?_
 obtain⟨-⟩:=hL
 go_wp2
 refine bodyPost_ret (by simp[results,Tryz.results227,go_sem]) rfl ⟨rfl,by exact belowAny⟩
theorem c_rawis1 (v:Int) (w:World):Cb 226 #[.int .i64 v] w (.bool (!isBack v)):=by
 have c1:=fun W=>c_sback v W
 have H_c1:=Hd c1
 clear c1
 go_enter Tryz.func226,Tryz.ntmps226
 go_wp2_with fail
 refine(H_c1.out _).mono ?_
 rintro e w1 ⟨rfl,hb1⟩
 have z2:=hb1.size
 try simp at z2
 refine haveB w w1 (Bz) ?_
 rintro hW z3 ⟨-⟩
 clear hb1
 go_wp2
 refine bodyPost_ret (by simp[results,Tryz.results226,go_sem]) rfl ⟨rfl,by exact belowAny⟩
def idxRel (p:Option Addr) (cap:Nat) (l:List Int) (w:World) (a':Act) (W:World):Prop:=
 Below w.heap.size w W/\∃i:Nat,(∃u:Nat->Value,a'= {tmps:= #[(.slice p l.length cap),.func (.func 226) #[] #[],u 2,u 3,u 4,u 5,(.slice p l.length cap),.int .i64 (l.length:Int),.int .i64 (i:Int),u 9,u 10,u 11,u 12,u 13,u 14,u 15,u 16,u 17,u 18],defers:= []})/\i<=l.length/\(l.take i).all isBack=true
def IdxOut (l:List Int) (w:World) (e:Ending) (w':World):Prop:=∃r:Int,e= .returned (.int .i64 r)/\decide (0<=r)= !(l.all isBack)/\ -1<=r/\Below w.heap.size w w'
theorem all_take {l:List Int} {i:Nat} {v:Int} (hv:l[i]? =some v) (h:(l.take i).all isBack=true):(l.take (i+1)).all isBack=isBack v:=by
 rw[List.getElem?_eq_some_iff] at hv
 obtain⟨hi,rfl⟩:=hv
 rw[List.take_succ_eq_append_getElem hi,List.all_append,h]
 simp
theorem all_false {l:List Int} {i:Nat} {v:Int} (hv:l[i]? =some v) (h:isBack v=false):l.all isBack=false:=by
 rw[List.all_eq_false]
 exact⟨v,List.mem_of_getElem? hv,by simp[h]⟩
theorem index_w (p:Option Addr) (cap:Nat) (l:List Int) (w:World) (hlen:l.length<=1000000) (h:IntsIn w p l):
  Calls Tryz.prog 289 #[.slice p l.length cap,.func (.func 226) #[] #[]] w (IdxOut l w):=by
 go_enter Tryz.func289,Tryz.ntmps289
 go_wp2
 refine wp_loop (idxRel p cap l w) (fun a' _=>l.length-(intAt (a'.tmps.getD 8 undef)).toNat) ?_ ?_
 ·unfold idxRel
  exact⟨belowAny,0,frame_ex rfl,by omega,by simp⟩
 ·rintro a' W ⟨hW,i,⟨u,rfl⟩,hi,hm⟩
  have hz:=hW.size
  replace hm:=Hd hm
  rcases Nat.lt_or_ge i l.length with hlt|hge
  ·obtain⟨v,hv⟩:∃v,l[i]? =some v:=⟨l[i],List.getElem?_eq_getElem hlt⟩
   obtain⟨b',o',e,k1⟩:=(h.below hW).at' i v hv
   cases e
   have hn:=Hd (all_take hv hm.out)
   replace hv:=Hd hv
   go_wp2_with fail
   refine(c_rawis1 v _).mono ?_
   rintro e w4 ⟨rfl,hb4⟩
   have hz4:=hb4.size
   clear k1
   cases hb:isBack v with
   |true=>
    rw[hb] at hn
    go_wp2
    rw[show (i:Int)+1=((i+1:Nat):Int) by omega]
    refine⟨?_,by simp[intAt];omega⟩
    unfold idxRel
    exact⟨belowAny,i+1,frame_ex rfl,by omega,hn.out⟩
   |false=>
    have hf:=Hd (all_false hv.out hb)
    clear hn
    go_wp2
    go_ret
    exact⟨_,rfl,by rw[hf.out];simp,by omega,belowAny⟩
  ·have e:i=l.length:=by omega
   subst e
   have hm':=hm.out
   rw[List.take_length] at hm'
   replace hm':=Hd hm'
   clear hm
   go_wp2
   go_ret
   exact⟨_,rfl,by rw[hm'.out];simp,by omega,hW⟩
theorem c_contains (p:Option Addr) (cap:Nat) (l:List Int) (w:World) (hlen:l.length<=1000000) (h:IntsIn w p l):
  Cb 225 #[.slice p l.length cap,.func (.func 226) #[] #[]] w (.bool (!(l.all isBack))):=by
 go_enter Tryz.func225,Tryz.ntmps225
 go_wp2_with fail
 refine(index_w p cap l _ hlen h).mono ?_
 rintro e w4 ⟨r,rfl,hr,hr1,hb4⟩
 have hr':=Hd hr
 clear hr
 go_wp2
 go_ret
 exact⟨by rw[<-hr'.out];rfl,hb4⟩
theorem span_w (K A R n d E:Int) (p q:Option Addr) (len cap m vc:Nat) (w:World) (x y N:Int) (hx:0<=x/\x<=281474976710656) (hy:0<=y/\y<=281474976710656) (hN:0<=N/\N<=256)
  (c1:∀W,Below w.heap.size w W->Cb 100 #[.slice p len cap,.int .i64 0] W (.tuple #[.int .i64 x,.int .i64 0]))
  (c2:∀W,Below w.heap.size w W->Cb 101 #[.slice p len cap] W (.int .i64 N))
  (c3:∀W,Below w.heap.size w W->Cb 100 #[.slice p len cap,.int .i64 (N-1)] W (.tuple #[.int .i64 y,.int .i64 0])):
  Cb 141 #[.agg #[.int .i64 K,.slice p len cap,.int .i64 A,.int .i64 R,.int .i64 n,.int .i64 d,.slice q m vc,.int .i64 E]] w (.tuple #[.int .i64 x,.int .i64 (y-x)]):=by
 have e1:=Hd (show wrap64 (N-1)=N-1 by rw[wrap64_eq];omega)
 have H_c1:=Hd c1
 clear c1
 have H_c2:=Hd c2
 clear c2
 have H_c3:=Hd c3
 clear c3
 go_enter Tryz.func141,Tryz.ntmps141
 go_upto_region 1 with(fail)
 refine wp_cutB w (Bc w.heap.size #[.int .i64 K,.slice p len cap,.int .i64 A,.int .i64 R,.int .i64 n,.int .i64 d,.slice q m vc,.int .i64 E] 93<|Bz) ?_
 rintro W1 hW z2 ⟨⟨b1,yb1,k1,f1⟩,-⟩
 go_wp2_with fail
 refine(H_c1.out _ (belowAny)).mono ?_
 rintro e w3 ⟨rfl,hb3⟩
 have z4:=hb3.size
 try simp at z4
 clear k1 f1
 refine haveB w w3 (Bc w.heap.size #[.int .i64 K,.slice p len cap,.int .i64 A,.int .i64 R,.int .i64 n,.int .i64 d,.slice q m vc,.int .i64 E] 93<|Bz) ?_
 clear b1 hW
 rintro hW z5 ⟨⟨b1,yb1,k1,f1⟩,-⟩
 clear hb3
 go_upto_region 2 with(fail)
 clear k1 f1
 refine wp_cutB w (Bc w.heap.size #[.int .i64 K,.slice p len cap,.int .i64 A,.int .i64 R,.int .i64 n,.int .i64 d,.slice q m vc,.int .i64 E] 93<|Bz) ?_
 clear b1 hW
 rintro W6 hW z7 hL
 refine wp_regD 14 31 hW hL ?_
 iterate 6 refine dE (fun W' hC=>e1.out) ?_
 refine cE (fun W' hC=>e1.out) (fun W' hC=>H_c2.out W' (hW.trans (hC.1.of_priv hW.size))) ?_
 refine dE (fun W' hC=>e1.out) ?_
 refine cE (fun W' hC=>e1.out) (fun W' hC=>H_c3.out W' (hW.trans (hC.1.of_priv hW.size))) ?_
 iterate 5 refine dE (fun W' hC=>e1.out) ?_
 clear hW hL
 rintro W8 hW z9 hL
 simp only[ndR]
 intros
 simp only[ndS]
 refine wpList_nil ?_
 obtain⟨⟨b1,yb1,k1,f1⟩,-⟩:=hL
 go_wp2
 refine bodyPost_ret (by simp[results,Tryz.results141,go_sem,k1,f1,yb1]) rfl ⟨rfl,by exact belowAny⟩
theorem lineis_yes (K A R n d E:Int) (p q:Option Addr) (len cap m vc:Nat) (w:World) (x L a b:Int)
  (c1:∀W,Below w.heap.size w W->Cb 141 #[.agg #[.int .i64 K,.slice p len cap,.int .i64 A,.int .i64 R,.int .i64 n,.int .i64 d,.slice q 0 vc,.int .i64 E]] W (.tuple #[.int .i64 x,.int .i64 L]))
  (c2:∀W,Below w.heap.size w W->Cb 221 #[.agg #[.int .i64 A,.int .i64 R,.int .i64 n,.int .i64 d],.int .i64 0,.int .i64 L] W (.tuple #[.agg #[.int .i64 a,.int .i64 b],.int .i64 0])):
  Cb 181 #[.agg #[.int .i64 K,.slice p len cap,.int .i64 A,.int .i64 R,.int .i64 n,.int .i64 d,.slice q 0 vc,.int .i64 E]] w (.bool true):=by
 have H_c1:=Hd c1
 clear c1
 have H_c2:=Hd c2
 clear c2
 go_enter Tryz.func181,Tryz.ntmps181
 go_upto_region 1 with(fail)
 refine wp_cutB w (Bc w.heap.size #[.int .i64 K,.slice p len cap,.int .i64 A,.int .i64 R,.int .i64 n,.int .i64 d,.slice q 0 vc,.int .i64 E] 93<|Bz) ?_
 rintro W1 hW z2 ⟨⟨b1,yb1,k1,f1⟩,-⟩
 go_wp2_with fail
 refine(H_c1.out _ (belowAny)).mono ?_
 rintro e w3 ⟨rfl,hb3⟩
 have z4:=hb3.size
 try simp at z4
 clear k1 f1
 refine haveB w w3 (Bc w.heap.size #[.int .i64 K,.slice p len cap,.int .i64 A,.int .i64 R,.int .i64 n,.int .i64 d,.slice q 0 vc,.int .i64 E] 93<|Bz) ?_
 clear b1 hW
 rintro hW z5 ⟨⟨b1,yb1,k1,f1⟩,-⟩
 clear hb3
 go_wp2_with fail
 refine(H_c2.out _ (belowAny)).mono ?_
 rintro e w6 ⟨rfl,hb6⟩
 have z7:=hb6.size
 try simp at z7
 clear k1 f1
 refine haveB w w6 (Bc w.heap.size #[.int .i64 K,.slice p len cap,.int .i64 A,.int .i64 R,.int .i64 n,.int .i64 d,.slice q 0 vc,.int .i64 E] 93<|Bz) ?_
 clear b1 hW
 rintro hW z8 ⟨⟨b1,yb1,k1,f1⟩,-⟩
 clear hb6
 go_wp2
 refine bodyPost_ret (by simp[results,Tryz.results181,go_sem,k1,f1,yb1]) rfl ⟨rfl,by exact belowAny⟩
theorem lineis_raw (K A R n d E:Int) (p q:Option Addr) (len cap m vc:Nat) (w:World) (x L a b:Int) (hm:¬m=0)
  (c1:∀W,Below w.heap.size w W->Cb 141 #[.agg #[.int .i64 K,.slice p len cap,.int .i64 A,.int .i64 R,.int .i64 n,.int .i64 d,.slice q m vc,.int .i64 E]] W (.tuple #[.int .i64 x,.int .i64 L]))
  (c2:∀W,Below w.heap.size w W->Cb 221 #[.agg #[.int .i64 A,.int .i64 R,.int .i64 n,.int .i64 d],.int .i64 0,.int .i64 L] W (.tuple #[.agg #[.int .i64 a,.int .i64 b],.int .i64 0])):
  Cb 181 #[.agg #[.int .i64 K,.slice p len cap,.int .i64 A,.int .i64 R,.int .i64 n,.int .i64 d,.slice q m vc,.int .i64 E]] w (.bool false):=by
 have H_c1:=Hd c1
 clear c1
 have H_c2:=Hd c2
 clear c2
 go_enter Tryz.func181,Tryz.ntmps181
 go_upto_region 1 with(fail)
 refine wp_cutB w (Bc w.heap.size #[.int .i64 K,.slice p len cap,.int .i64 A,.int .i64 R,.int .i64 n,.int .i64 d,.slice q m vc,.int .i64 E] 93<|Bz) ?_
 rintro W1 hW z2 ⟨⟨b1,yb1,k1,f1⟩,-⟩
 go_wp2_with fail
 refine(H_c1.out _ (belowAny)).mono ?_
 rintro e w3 ⟨rfl,hb3⟩
 have z4:=hb3.size
 try simp at z4
 clear k1 f1
 refine haveB w w3 (Bc w.heap.size #[.int .i64 K,.slice p len cap,.int .i64 A,.int .i64 R,.int .i64 n,.int .i64 d,.slice q m vc,.int .i64 E] 93<|Bz) ?_
 clear b1 hW
 rintro hW z5 ⟨⟨b1,yb1,k1,f1⟩,-⟩
 clear hb3
 go_wp2_with fail
 refine(H_c2.out _ (belowAny)).mono ?_
 rintro e w6 ⟨rfl,hb6⟩
 have z7:=hb6.size
 try simp at z7
 clear k1 f1
 refine haveB w w6 (Bc w.heap.size #[.int .i64 K,.slice p len cap,.int .i64 A,.int .i64 R,.int .i64 n,.int .i64 d,.slice q m vc,.int .i64 E] 93<|Bz) ?_
 clear b1 hW
 rintro hW z8 ⟨⟨b1,yb1,k1,f1⟩,-⟩
 clear hb6
 go_wp2
 refine bodyPost_ret (by simp[results,Tryz.results181,go_sem,k1,f1,yb1,hm]) rfl ⟨rfl,by exact belowAny⟩
theorem lineis_over (K A R n d E:Int) (p q:Option Addr) (len cap m vc:Nat) (w:World) (x L a b:Int)
  (c1:∀W,Below w.heap.size w W->Cb 141 #[.agg #[.int .i64 K,.slice p len cap,.int .i64 A,.int .i64 R,.int .i64 n,.int .i64 d,.slice q m vc,.int .i64 E]] W (.tuple #[.int .i64 x,.int .i64 L]))
  (c2:∀W,Below w.heap.size w W->Cb 221 #[.agg #[.int .i64 A,.int .i64 R,.int .i64 n,.int .i64 d],.int .i64 0,.int .i64 L] W (.tuple #[.agg #[.int .i64 a,.int .i64 b],.int .i64 5])):
  Cb 181 #[.agg #[.int .i64 K,.slice p len cap,.int .i64 A,.int .i64 R,.int .i64 n,.int .i64 d,.slice q m vc,.int .i64 E]] w (.bool false):=by
 have H_c1:=Hd c1
 clear c1
 have H_c2:=Hd c2
 clear c2
 go_enter Tryz.func181,Tryz.ntmps181
 go_upto_region 1 with(fail)
 refine wp_cutB w (Bc w.heap.size #[.int .i64 K,.slice p len cap,.int .i64 A,.int .i64 R,.int .i64 n,.int .i64 d,.slice q m vc,.int .i64 E] 93<|Bz) ?_
 rintro W1 hW z2 ⟨⟨b1,yb1,k1,f1⟩,-⟩
 go_wp2_with fail
 refine(H_c1.out _ (belowAny)).mono ?_
 rintro e w3 ⟨rfl,hb3⟩
 have z4:=hb3.size
 try simp at z4
 clear k1 f1
 refine haveB w w3 (Bc w.heap.size #[.int .i64 K,.slice p len cap,.int .i64 A,.int .i64 R,.int .i64 n,.int .i64 d,.slice q m vc,.int .i64 E] 93<|Bz) ?_
 clear b1 hW
 rintro hW z5 ⟨⟨b1,yb1,k1,f1⟩,-⟩
 clear hb3
 go_wp2_with fail
 refine(H_c2.out _ (belowAny)).mono ?_
 rintro e w6 ⟨rfl,hb6⟩
 have z7:=hb6.size
 try simp at z7
 clear k1 f1
 refine haveB w w6 (Bc w.heap.size #[.int .i64 K,.slice p len cap,.int .i64 A,.int .i64 R,.int .i64 n,.int .i64 d,.slice q m vc,.int .i64 E] 93<|Bz) ?_
 clear b1 hW
 rintro hW z8 ⟨⟨b1,yb1,k1,f1⟩,-⟩
 clear hb6
 go_wp2
 refine bodyPost_ret (by simp[results,Tryz.results181,go_sem,k1,f1,yb1]) rfl ⟨rfl,by exact belowAny⟩
theorem lineis_no (K A R n d E:Int) (p q:Option Addr) (len cap m vc:Nat) (w:World) (x L a b:Int)
  (c1:∀W,Below w.heap.size w W->Cb 141 #[.agg #[.int .i64 K,.slice p len cap,.int .i64 A,.int .i64 R,.int .i64 n,.int .i64 d,.slice q m vc,.int .i64 E]] W (.tuple #[.int .i64 x,.int .i64 L]))
  (c2:∀W,Below w.heap.size w W->Cb 221 #[.agg #[.int .i64 A,.int .i64 R,.int .i64 n,.int .i64 d],.int .i64 0,.int .i64 L] W (.tuple #[.agg #[.int .i64 a,.int .i64 b],.int .i64 150])):
  Cb 181 #[.agg #[.int .i64 K,.slice p len cap,.int .i64 A,.int .i64 R,.int .i64 n,.int .i64 d,.slice q m vc,.int .i64 E]] w (.bool false):=by
 have H_c1:=Hd c1
 clear c1
 have H_c2:=Hd c2
 clear c2
 go_enter Tryz.func181,Tryz.ntmps181
 go_upto_region 1 with(fail)
 refine wp_cutB w (Bc w.heap.size #[.int .i64 K,.slice p len cap,.int .i64 A,.int .i64 R,.int .i64 n,.int .i64 d,.slice q m vc,.int .i64 E] 93<|Bz) ?_
 rintro W1 hW z2 ⟨⟨b1,yb1,k1,f1⟩,-⟩
 go_wp2_with fail
 refine(H_c1.out _ (belowAny)).mono ?_
 rintro e w3 ⟨rfl,hb3⟩
 have z4:=hb3.size
 try simp at z4
 clear k1 f1
 refine haveB w w3 (Bc w.heap.size #[.int .i64 K,.slice p len cap,.int .i64 A,.int .i64 R,.int .i64 n,.int .i64 d,.slice q m vc,.int .i64 E] 93<|Bz) ?_
 clear b1 hW
 rintro hW z5 ⟨⟨b1,yb1,k1,f1⟩,-⟩
 clear hb3
 go_wp2_with fail
 refine(H_c2.out _ (belowAny)).mono ?_
 rintro e w6 ⟨rfl,hb6⟩
 have z7:=hb6.size
 try simp at z7
 clear k1 f1
 refine haveB w w6 (Bc w.heap.size #[.int .i64 K,.slice p len cap,.int .i64 A,.int .i64 R,.int .i64 n,.int .i64 d,.slice q m vc,.int .i64 E] 93<|Bz) ?_
 clear b1 hW
 rintro hW z8 ⟨⟨b1,yb1,k1,f1⟩,-⟩
 clear hb6
 go_wp2
 refine bodyPost_ret (by simp[results,Tryz.results181,go_sem,k1,f1,yb1]) rfl ⟨rfl,by exact belowAny⟩
theorem kind1_flat (K A R n d E:Int) (p q:Option Addr) (len cap m vc:Nat) (w:World) (b:Bool)
  (c1:∀W,Below w.heap.size w W->Cb 181 #[.agg #[.int .i64 K,.slice p len cap,.int .i64 A,.int .i64 R,.int .i64 0,.int .i64 d,.slice q m vc,.int .i64 E]] W (.bool b)):
  Cb 180 #[.agg #[.int .i64 K,.slice p len cap,.int .i64 A,.int .i64 R,.int .i64 0,.int .i64 d,.slice q m vc,.int .i64 E]] w (.bool b):=by
 have H_c1:=Hd c1
 clear c1
 go_enter Tryz.func180,Tryz.ntmps180
 go_upto_region 1 with(fail)
 refine wp_cutB w (Bc w.heap.size #[.int .i64 K,.slice p len cap,.int .i64 A,.int .i64 R,.int .i64 0,.int .i64 d,.slice q m vc,.int .i64 E] 93<|Bz) ?_
 rintro W1 hW z2 ⟨⟨b1,yb1,k1,f1⟩,-⟩
 go_wp2_with fail
 refine(H_c1.out _ (belowAny)).mono ?_
 rintro e w3 ⟨rfl,hb3⟩
 have z4:=hb3.size
 try simp at z4
 clear k1 f1
 refine haveB w w3 (Bc w.heap.size #[.int .i64 K,.slice p len cap,.int .i64 A,.int .i64 R,.int .i64 0,.int .i64 d,.slice q m vc,.int .i64 E] 93<|Bz) ?_
 clear b1 hW
 rintro hW z5 ⟨⟨b1,yb1,k1,f1⟩,-⟩
 clear hb3
 go_wp2
 refine bodyPost_ret (by simp[results,Tryz.results180,go_sem,k1,f1,yb1]) rfl ⟨rfl,by exact belowAny⟩
theorem kind1_no (K A R n d E:Int) (p q:Option Addr) (len cap m vc:Nat) (w:World) (b:Bool) (hn:(n==0)=false)
   :
  Cb 180 #[.agg #[.int .i64 K,.slice p len cap,.int .i64 A,.int .i64 R,.int .i64 n,.int .i64 d,.slice q m vc,.int .i64 E]] w (.bool false):=by
 go_enter Tryz.func180,Tryz.ntmps180
 go_upto_region 1 with(fail)
 refine wp_cutB w (Bc w.heap.size #[.int .i64 K,.slice p len cap,.int .i64 A,.int .i64 R,.int .i64 n,.int .i64 d,.slice q m vc,.int .i64 E] 93<|Bz) ?_
 rintro W1 hW z2 ⟨⟨b1,yb1,k1,f1⟩,-⟩
 go_wp2
 refine bodyPost_ret (by simp[results,Tryz.results180,go_sem,k1,f1,yb1]) rfl ⟨rfl,by exact belowAny⟩
theorem kind2_tilt (K A R n d E:Int) (p q:Option Addr) (len cap m vc:Nat) (w:World) (b:Bool) (hn:(n !=0)=true)
  (c1:∀W,Below w.heap.size w W->Cb 181 #[.agg #[.int .i64 K,.slice p len cap,.int .i64 A,.int .i64 0,.int .i64 n,.int .i64 d,.slice q m vc,.int .i64 E]] W (.bool b)):
  Cb 182 #[.agg #[.int .i64 K,.slice p len cap,.int .i64 A,.int .i64 0,.int .i64 n,.int .i64 d,.slice q m vc,.int .i64 E]] w (.bool b):=by
 have H_c1:=Hd c1
 clear c1
 go_enter Tryz.func182,Tryz.ntmps182
 go_upto_region 1 with(fail)
 refine wp_cutB w (Bc w.heap.size #[.int .i64 K,.slice p len cap,.int .i64 A,.int .i64 0,.int .i64 n,.int .i64 d,.slice q m vc,.int .i64 E] 93<|Bz) ?_
 rintro W1 hW z2 ⟨⟨b1,yb1,k1,f1⟩,-⟩
 go_wp2_with fail
 refine(H_c1.out _ (belowAny)).mono ?_
 rintro e w3 ⟨rfl,hb3⟩
 have z4:=hb3.size
 try simp at z4
 clear k1 f1
 refine haveB w w3 (Bc w.heap.size #[.int .i64 K,.slice p len cap,.int .i64 A,.int .i64 0,.int .i64 n,.int .i64 d,.slice q m vc,.int .i64 E] 93<|Bz) ?_
 clear b1 hW
 rintro hW z5 ⟨⟨b1,yb1,k1,f1⟩,-⟩
 clear hb3
 go_wp2
 refine bodyPost_ret (by simp[results,Tryz.results182,go_sem,k1,f1,yb1]) rfl ⟨rfl,by exact belowAny⟩
theorem kind2_flat (K A R n d E:Int) (p q:Option Addr) (len cap m vc:Nat) (w:World) (b:Bool)
   :
  Cb 182 #[.agg #[.int .i64 K,.slice p len cap,.int .i64 A,.int .i64 R,.int .i64 0,.int .i64 d,.slice q m vc,.int .i64 E]] w (.bool false):=by
 go_enter Tryz.func182,Tryz.ntmps182
 go_upto_region 1 with(fail)
 refine wp_cutB w (Bc w.heap.size #[.int .i64 K,.slice p len cap,.int .i64 A,.int .i64 R,.int .i64 0,.int .i64 d,.slice q m vc,.int .i64 E] 93<|Bz) ?_
 rintro W1 hW z2 ⟨⟨b1,yb1,k1,f1⟩,-⟩
 go_wp2
 refine bodyPost_ret (by simp[results,Tryz.results182,go_sem,k1,f1,yb1]) rfl ⟨rfl,by exact belowAny⟩
theorem kind2_free (K A R n d E:Int) (p q:Option Addr) (len cap m vc:Nat) (w:World) (b:Bool) (hn:(n !=0)=true) (hR:(R==0)=false)
   :
  Cb 182 #[.agg #[.int .i64 K,.slice p len cap,.int .i64 A,.int .i64 R,.int .i64 n,.int .i64 d,.slice q m vc,.int .i64 E]] w (.bool false):=by
 go_enter Tryz.func182,Tryz.ntmps182
 go_upto_region 1 with(fail)
 refine wp_cutB w (Bc w.heap.size #[.int .i64 K,.slice p len cap,.int .i64 A,.int .i64 R,.int .i64 n,.int .i64 d,.slice q m vc,.int .i64 E] 93<|Bz) ?_
 rintro W1 hW z2 ⟨⟨b1,yb1,k1,f1⟩,-⟩
 go_wp2
 refine bodyPost_ret (by simp[results,Tryz.results182,go_sem,k1,f1,yb1]) rfl ⟨rfl,by exact belowAny⟩
theorem kind3_free (K A R n d E:Int) (p q:Option Addr) (len cap m vc:Nat) (w:World) (b:Bool) (hR:(R !=0)=true)
  (c1:∀W,Below w.heap.size w W->Cb 181 #[.agg #[.int .i64 K,.slice p len cap,.int .i64 A,.int .i64 R,.int .i64 n,.int .i64 d,.slice q m vc,.int .i64 E]] W (.bool b)):
  Cb 183 #[.agg #[.int .i64 K,.slice p len cap,.int .i64 A,.int .i64 R,.int .i64 n,.int .i64 d,.slice q m vc,.int .i64 E]] w (.bool b):=by
 have H_c1:=Hd c1
 clear c1
 go_enter Tryz.func183,Tryz.ntmps183
 go_upto_region 1 with(fail)
 refine wp_cutB w (Bc w.heap.size #[.int .i64 K,.slice p len cap,.int .i64 A,.int .i64 R,.int .i64 n,.int .i64 d,.slice q m vc,.int .i64 E] 93<|Bz) ?_
 rintro W1 hW z2 ⟨⟨b1,yb1,k1,f1⟩,-⟩
 go_wp2_with fail
 refine(H_c1.out _ (belowAny)).mono ?_
 rintro e w3 ⟨rfl,hb3⟩
 have z4:=hb3.size
 try simp at z4
 clear k1 f1
 refine haveB w w3 (Bc w.heap.size #[.int .i64 K,.slice p len cap,.int .i64 A,.int .i64 R,.int .i64 n,.int .i64 d,.slice q m vc,.int .i64 E] 93<|Bz) ?_
 clear b1 hW
 rintro hW z5 ⟨⟨b1,yb1,k1,f1⟩,-⟩
 clear hb3
 go_wp2
 refine bodyPost_ret (by simp[results,Tryz.results183,go_sem,k1,f1,yb1]) rfl ⟨rfl,by exact belowAny⟩
theorem kind3_no (K A R n d E:Int) (p q:Option Addr) (len cap m vc:Nat) (w:World) (b:Bool)
   :
  Cb 183 #[.agg #[.int .i64 K,.slice p len cap,.int .i64 A,.int .i64 0,.int .i64 n,.int .i64 d,.slice q m vc,.int .i64 E]] w (.bool false):=by
 go_enter Tryz.func183,Tryz.ntmps183
 go_upto_region 1 with(fail)
 refine wp_cutB w (Bc w.heap.size #[.int .i64 K,.slice p len cap,.int .i64 A,.int .i64 0,.int .i64 n,.int .i64 d,.slice q m vc,.int .i64 E] 93<|Bz) ?_
 rintro W1 hW z2 ⟨⟨b1,yb1,k1,f1⟩,-⟩
 go_wp2
 refine bodyPost_ret (by simp[results,Tryz.results183,go_sem,k1,f1,yb1]) rfl ⟨rfl,by exact belowAny⟩
attribute [local simp] Oper.looksAt Op.operands Call.operands envOf Det GDet
def lineZ (A R n d:Int):Bool:=decide (A=0/\R=0/\n=0/\d=0)
theorem rawis_w (K A R n d E:Int) (p q:Option Addr) (len cap m vc:Nat) (w:World) (N:Int) (b2:Bool)
  (c1:∀W,Below w.heap.size w W->Cb 101 #[.slice p len cap] W (.int .i64 N))
  (c2:∀W,Below w.heap.size w W->Cb 225 #[.slice q m vc,.func (.func 226) #[] #[]] W (.bool b2)):
  Cb 185 #[.agg #[.int .i64 K,.slice p len cap,.int .i64 A,.int .i64 R,.int .i64 n,.int .i64 d,.slice q m vc,.int .i64 E]] w (.bool (lineZ A R n d&&(m:Int)==N&& !b2)):=by
 have H_c1:=Hd c1
 clear c1
 have H_c2:=Hd c2
 clear c2
 go_enter Tryz.func185,Tryz.ntmps185
 go_upto_region 1 with(fail)
 refine wp_cutB w (Bc w.heap.size #[.int .i64 K,.slice p len cap,.int .i64 A,.int .i64 R,.int .i64 n,.int .i64 d,.slice q m vc,.int .i64 E] 93<|Bz) ?_
 rintro W1 hW z2 hL
 obtain⟨⟨b1,yb1,k1,f1⟩,-⟩:=id hL
 clear k1 f1
 refine wp_regD 24 26 hW hL ?_
 iterate 4 refine dA ?_
 apply nd_det (c:= .bool (lineZ A R n d)) (hg:=rfl) (hal:=rfl)
 ·intro a W' hC hE
  obtain⟨_,⟨-,-,k1,-⟩,-⟩:=hC
  simp at hE
  simp[go_sem,Act.eval,hE,k1]
  unfold lineZ
  by_cases h1:A=0<;>by_cases h2:R=0<;>by_cases h3:n=0<;>by_cases h4:d=0<;>simp[h1,h2,h3,h4]
 refine dA ?_
 iterate 7 refine gA ?_
 refine cG (fun hp hx W' hC=>H_c1.out W' (hW.trans (hC.1.of_priv hW.size))) ?_
 refine gA ?_
 refine pA ?_
 refine dA ?_
 iterate 3 refine gA ?_
 refine cG (fun hp hx W' hC=>H_c2.out W' (hW.trans (hC.1.of_priv hW.size))) ?_
 refine gA ?_
 refine pA ?_
 refine dA ?_
 clear hW hL b1
 rintro W3 hW z4 hL
 simp only[ndR]
 intros
 repeat (rename GDet _ _ _ _=>hgd;clear hgd)
 simp only[ndS]
 refine wpList_nil ?_
 obtain⟨⟨b1,yb1,k1,f1⟩,-⟩:=hL
 go_wp2
 refine bodyPost_ret (v:= .bool (lineZ A R n d&&(m:Int)==N&& !b2)) (by simp[results,Tryz.results185,go_sem,k1,f1,yb1]) rfl ⟨rfl,belowAny⟩
theorem kinds_w (w:World):Cb 140 #[] w (.agg #[.nilFunc,.nilFunc,.func (.func 180) #[] #[],.func (.func 184) #[] #[],.func (.func 182) #[] #[],.func (.func 184) #[] #[],.func (.func 183) #[] #[],.func (.func 184) #[] #[],.func (.func 185) #[] #[],.func (.func 186) #[] #[]]):=by
 go_enter Tryz.func140,Tryz.ntmps140
 go_wp2
 exact bodyPost_ret (v:= .agg #[.nilFunc,.nilFunc,.func (.func 180) #[] #[],.func (.func 184) #[] #[],.func (.func 182) #[] #[],.func (.func 184) #[] #[],.func (.func 183) #[] #[],.func (.func 184) #[] #[],.func (.func 185) #[] #[],.func (.func 186) #[] #[]]) (by simp[results,Tryz.results140,go_sem]) rfl ⟨rfl,belowAny⟩
theorem is_1 (K A R n d E:Int) (p q:Option Addr) (len cap m vc:Nat) (w:World) (b:Bool)
  (c1:∀W,Below w.heap.size w W->Cb 139 #[.slice p len cap] W (.int .i64 0))
  (c3:∀W,Below w.heap.size w W->Cb 180 #[.agg #[.int .i64 1,.slice p len cap,.int .i64 A,.int .i64 R,.int .i64 n,.int .i64 d,.slice q m vc,.int .i64 E]] W (.bool b)):
  Cb 103 #[.agg #[.int .i64 1,.slice p len cap,.int .i64 A,.int .i64 R,.int .i64 n,.int .i64 d,.slice q m vc,.int .i64 E]] w (.bool (decide (0<=E)&&decide (E<=1099511627776)&&b)):=by
 have H_c1:=Hd c1
 clear c1
 have H_c3:=Hd c3
 clear c3
 go_enter Tryz.func103,Tryz.ntmps103
 go_upto_region 1 with(fail)
 refine wp_cutB w (Bc w.heap.size #[.int .i64 1,.slice p len cap,.int .i64 A,.int .i64 R,.int .i64 n,.int .i64 d,.slice q m vc,.int .i64 E] 93<|Bz) ?_
 rintro W1 hW z2 hL
 obtain⟨⟨b1,yb1,k1,f1⟩,-⟩:=id hL
 clear k1 f1
 refine wp_regD 40 42 hW hL ?_
 iterate 5 refine dA ?_
 iterate 4 refine gA ?_
 refine pA ?_
 refine dA ?_
 iterate 4 refine gA ?_
 refine pA ?_
 refine dA ?_
 iterate 4 refine gA ?_
 refine pA ?_
 refine dA ?_
 iterate 3 refine gA ?_
 refine cG (fun hp hx W' hC=>H_c1.out W' (hW.trans (hC.1.of_priv hW.size))) ?_
 refine gA ?_
 refine pA ?_
 refine dA ?_
 refine cG (fun hp hx W' hC=>kinds_w W') ?_
 iterate 3 refine gA ?_
 apply nd_detg (p:=true) (c:= .agg #[.func (.func 180) #[] #[],.func (.func 184) #[] #[]]) (hg:=rfl) (hd:=rfl) (hal:=rfl)
 ·intro v W' h
  simp at h
  simp
  exact h
 ·intro hp hx a W' hC hE
  simp[hx] at hE
  simp[go_sem,Act.eval,hE]
  kernel_rfl
 iterate 2 refine gA ?_
 refine cG (fun hp hx W' hC=>H_c3.out W' (hW.trans (hC.1.of_priv hW.size))) ?_
 refine pA ?_
 refine dA ?_
 clear hW hL b1
 rintro W3 hW z4 hL
 simp only[ndR]
 intros
 repeat (rename GDet _ _ _ _=>hgd;clear hgd)
 simp only[ndS]
 refine wpList_nil ?_
 obtain⟨⟨b1,yb1,k1,f1⟩,-⟩:=hL
 go_wp2
 refine bodyPost_ret (v:= .bool (decide (0<=E)&&decide (E<=1099511627776)&&b)) (by simp[results,Tryz.results103,go_sem,k1,f1,yb1]) rfl ⟨rfl,belowAny⟩
theorem is_2 (K A R n d E:Int) (p q:Option Addr) (len cap m vc:Nat) (w:World) (b:Bool)
  (c1:∀W,Below w.heap.size w W->Cb 139 #[.slice p len cap] W (.int .i64 0))
  (c3:∀W,Below w.heap.size w W->Cb 182 #[.agg #[.int .i64 2,.slice p len cap,.int .i64 A,.int .i64 R,.int .i64 n,.int .i64 d,.slice q m vc,.int .i64 E]] W (.bool b)):
  Cb 103 #[.agg #[.int .i64 2,.slice p len cap,.int .i64 A,.int .i64 R,.int .i64 n,.int .i64 d,.slice q m vc,.int .i64 E]] w (.bool (decide (0<=E)&&decide (E<=1099511627776)&&b)):=by
 have H_c1:=Hd c1
 clear c1
 have H_c3:=Hd c3
 clear c3
 go_enter Tryz.func103,Tryz.ntmps103
 go_upto_region 1 with(fail)
 refine wp_cutB w (Bc w.heap.size #[.int .i64 2,.slice p len cap,.int .i64 A,.int .i64 R,.int .i64 n,.int .i64 d,.slice q m vc,.int .i64 E] 93<|Bz) ?_
 rintro W1 hW z2 hL
 obtain⟨⟨b1,yb1,k1,f1⟩,-⟩:=id hL
 clear k1 f1
 refine wp_regD 40 42 hW hL ?_
 iterate 5 refine dA ?_
 iterate 4 refine gA ?_
 refine pA ?_
 refine dA ?_
 iterate 4 refine gA ?_
 refine pA ?_
 refine dA ?_
 iterate 4 refine gA ?_
 refine pA ?_
 refine dA ?_
 iterate 3 refine gA ?_
 refine cG (fun hp hx W' hC=>H_c1.out W' (hW.trans (hC.1.of_priv hW.size))) ?_
 refine gA ?_
 refine pA ?_
 refine dA ?_
 refine cG (fun hp hx W' hC=>kinds_w W') ?_
 iterate 3 refine gA ?_
 apply nd_detg (p:=true) (c:= .agg #[.func (.func 182) #[] #[],.func (.func 184) #[] #[]]) (hg:=rfl) (hd:=rfl) (hal:=rfl)
 ·intro v W' h
  simp at h
  simp
  exact h
 ·intro hp hx a W' hC hE
  simp[hx] at hE
  simp[go_sem,Act.eval,hE]
  kernel_rfl
 iterate 2 refine gA ?_
 refine cG (fun hp hx W' hC=>H_c3.out W' (hW.trans (hC.1.of_priv hW.size))) ?_
 refine pA ?_
 refine dA ?_
 clear hW hL b1
 rintro W3 hW z4 hL
 simp only[ndR]
 intros
 repeat (rename GDet _ _ _ _=>hgd;clear hgd)
 simp only[ndS]
 refine wpList_nil ?_
 obtain⟨⟨b1,yb1,k1,f1⟩,-⟩:=hL
 go_wp2
 refine bodyPost_ret (v:= .bool (decide (0<=E)&&decide (E<=1099511627776)&&b)) (by simp[results,Tryz.results103,go_sem,k1,f1,yb1]) rfl ⟨rfl,belowAny⟩
theorem is_3 (K A R n d E:Int) (p q:Option Addr) (len cap m vc:Nat) (w:World) (b:Bool)
  (c1:∀W,Below w.heap.size w W->Cb 139 #[.slice p len cap] W (.int .i64 0))
  (c3:∀W,Below w.heap.size w W->Cb 183 #[.agg #[.int .i64 3,.slice p len cap,.int .i64 A,.int .i64 R,.int .i64 n,.int .i64 d,.slice q m vc,.int .i64 E]] W (.bool b)):
  Cb 103 #[.agg #[.int .i64 3,.slice p len cap,.int .i64 A,.int .i64 R,.int .i64 n,.int .i64 d,.slice q m vc,.int .i64 E]] w (.bool (decide (0<=E)&&decide (E<=1099511627776)&&b)):=by
 have H_c1:=Hd c1
 clear c1
 have H_c3:=Hd c3
 clear c3
 go_enter Tryz.func103,Tryz.ntmps103
 go_upto_region 1 with(fail)
 refine wp_cutB w (Bc w.heap.size #[.int .i64 3,.slice p len cap,.int .i64 A,.int .i64 R,.int .i64 n,.int .i64 d,.slice q m vc,.int .i64 E] 93<|Bz) ?_
 rintro W1 hW z2 hL
 obtain⟨⟨b1,yb1,k1,f1⟩,-⟩:=id hL
 clear k1 f1
 refine wp_regD 40 42 hW hL ?_
 iterate 5 refine dA ?_
 iterate 4 refine gA ?_
 refine pA ?_
 refine dA ?_
 iterate 4 refine gA ?_
 refine pA ?_
 refine dA ?_
 iterate 4 refine gA ?_
 refine pA ?_
 refine dA ?_
 iterate 3 refine gA ?_
 refine cG (fun hp hx W' hC=>H_c1.out W' (hW.trans (hC.1.of_priv hW.size))) ?_
 refine gA ?_
 refine pA ?_
 refine dA ?_
 refine cG (fun hp hx W' hC=>kinds_w W') ?_
 iterate 3 refine gA ?_
 apply nd_detg (p:=true) (c:= .agg #[.func (.func 183) #[] #[],.func (.func 184) #[] #[]]) (hg:=rfl) (hd:=rfl) (hal:=rfl)
 ·intro v W' h
  simp at h
  simp
  exact h
 ·intro hp hx a W' hC hE
  simp[hx] at hE
  simp[go_sem,Act.eval,hE]
  kernel_rfl
 iterate 2 refine gA ?_
 refine cG (fun hp hx W' hC=>H_c3.out W' (hW.trans (hC.1.of_priv hW.size))) ?_
 refine pA ?_
 refine dA ?_
 clear hW hL b1
 rintro W3 hW z4 hL
 simp only[ndR]
 intros
 repeat (rename GDet _ _ _ _=>hgd;clear hgd)
 simp only[ndS]
 refine wpList_nil ?_
 obtain⟨⟨b1,yb1,k1,f1⟩,-⟩:=hL
 go_wp2
 refine bodyPost_ret (v:= .bool (decide (0<=E)&&decide (E<=1099511627776)&&b)) (by simp[results,Tryz.results103,go_sem,k1,f1,yb1]) rfl ⟨rfl,belowAny⟩
theorem is_4 (K A R n d E:Int) (p q:Option Addr) (len cap m vc:Nat) (w:World) (b:Bool)
  (c1:∀W,Below w.heap.size w W->Cb 139 #[.slice p len cap] W (.int .i64 0))
  (c3:∀W,Below w.heap.size w W->Cb 185 #[.agg #[.int .i64 4,.slice p len cap,.int .i64 A,.int .i64 R,.int .i64 n,.int .i64 d,.slice q m vc,.int .i64 E]] W (.bool b)):
  Cb 103 #[.agg #[.int .i64 4,.slice p len cap,.int .i64 A,.int .i64 R,.int .i64 n,.int .i64 d,.slice q m vc,.int .i64 E]] w (.bool (decide (0<=E)&&decide (E<=1099511627776)&&b)):=by
 have H_c1:=Hd c1
 clear c1
 have H_c3:=Hd c3
 clear c3
 go_enter Tryz.func103,Tryz.ntmps103
 go_upto_region 1 with(fail)
 refine wp_cutB w (Bc w.heap.size #[.int .i64 4,.slice p len cap,.int .i64 A,.int .i64 R,.int .i64 n,.int .i64 d,.slice q m vc,.int .i64 E] 93<|Bz) ?_
 rintro W1 hW z2 hL
 obtain⟨⟨b1,yb1,k1,f1⟩,-⟩:=id hL
 clear k1 f1
 refine wp_regD 40 42 hW hL ?_
 iterate 5 refine dA ?_
 iterate 4 refine gA ?_
 refine pA ?_
 refine dA ?_
 iterate 4 refine gA ?_
 refine pA ?_
 refine dA ?_
 iterate 4 refine gA ?_
 refine pA ?_
 refine dA ?_
 iterate 3 refine gA ?_
 refine cG (fun hp hx W' hC=>H_c1.out W' (hW.trans (hC.1.of_priv hW.size))) ?_
 refine gA ?_
 refine pA ?_
 refine dA ?_
 refine cG (fun hp hx W' hC=>kinds_w W') ?_
 iterate 3 refine gA ?_
 apply nd_detg (p:=true) (c:= .agg #[.func (.func 185) #[] #[],.func (.func 186) #[] #[]]) (hg:=rfl) (hd:=rfl) (hal:=rfl)
 ·intro v W' h
  simp at h
  simp
  exact h
 ·intro hp hx a W' hC hE
  simp[hx] at hE
  simp[go_sem,Act.eval,hE]
  kernel_rfl
 iterate 2 refine gA ?_
 refine cG (fun hp hx W' hC=>H_c3.out W' (hW.trans (hC.1.of_priv hW.size))) ?_
 refine pA ?_
 refine dA ?_
 clear hW hL b1
 rintro W3 hW z4 hL
 simp only[ndR]
 intros
 repeat (rename GDet _ _ _ _=>hgd;clear hgd)
 simp only[ndS]
 refine wpList_nil ?_
 obtain⟨⟨b1,yb1,k1,f1⟩,-⟩:=hL
 go_wp2
 refine bodyPost_ret (v:= .bool (decide (0<=E)&&decide (E<=1099511627776)&&b)) (by simp[results,Tryz.results103,go_sem,k1,f1,yb1]) rfl ⟨rfl,belowAny⟩
theorem is_runs (K A R n d E:Int) (p q:Option Addr) (len cap m vc:Nat) (w:World)
  (c1:∀W,Below w.heap.size w W->Cb 139 #[.slice p len cap] W (.int .i64 170)):
  Cb 103 #[.agg #[.int .i64 K,.slice p len cap,.int .i64 A,.int .i64 R,.int .i64 n,.int .i64 d,.slice q m vc,.int .i64 E]] w (.bool false):=by
 have H_c1:=Hd c1
 clear c1
 go_enter Tryz.func103,Tryz.ntmps103
 go_upto_region 1 with(fail)
 refine wp_cutB w (Bc w.heap.size #[.int .i64 K,.slice p len cap,.int .i64 A,.int .i64 R,.int .i64 n,.int .i64 d,.slice q m vc,.int .i64 E] 93<|Bz) ?_
 rintro W1 hW z2 hL
 obtain⟨⟨b1,yb1,k1,f1⟩,-⟩:=id hL
 clear k1 f1
 refine wp_regD 40 42 hW hL ?_
 iterate 5 refine dA ?_
 iterate 4 refine gA ?_
 refine pA ?_
 refine dA ?_
 iterate 4 refine gA ?_
 refine pA ?_
 refine dA ?_
 iterate 4 refine gA ?_
 refine pA ?_
 refine dA ?_
 iterate 3 refine gA ?_
 refine cG (fun hp hx W' hC=>H_c1.out W' (hW.trans (hC.1.of_priv hW.size))) ?_
 refine gA ?_
 refine pA ?_
 refine dA ?_
 iterate 8
  apply nd_detg (p:=true) (c:=undef) (hg:=rfl) (hd:=rfl) (hal:=rfl)
  ·intro v W' h
   simp at h
   simp
   exact h
  ·intro hp hx
   exfalso
   simp at hx
 apply nd_det (c:= .bool false) (hg:=rfl) (hal:=rfl)
 ·intro a W' hC hE
  have hE1:=hE 32 (by simp[Oper.looksAt,Op.operands])
  simp at hE1
  simp[go_sem,Act.eval,hE1]
 refine dA ?_
 clear hW hL b1
 rintro W3 hW z4 hL
 simp only[ndR]
 intros
 repeat (rename GDet _ _ _ _=>hgd;clear hgd)
 simp only[ndS]
 refine wpList_nil ?_
 obtain⟨⟨b1,yb1,k1,f1⟩,-⟩:=hL
 go_wp2
 refine bodyPost_ret (v:= .bool false) (by simp[results,Tryz.results103,go_sem,k1,f1,yb1]) rfl ⟨rfl,belowAny⟩
theorem is_kind (K A R n d E:Int) (p q:Option Addr) (len cap m vc:Nat) (w:World) (r:Int) (hK:¬(1<=K/\K<=4))
  (c1:∀W,Below w.heap.size w W->Cb 139 #[.slice p len cap] W (.int .i64 r)):
  Cb 103 #[.agg #[.int .i64 K,.slice p len cap,.int .i64 A,.int .i64 R,.int .i64 n,.int .i64 d,.slice q m vc,.int .i64 E]] w (.bool false):=by
 have hK1:(decide (1<=K)&&decide (K<=4))=false:=by simp;omega
 have H_c1:=Hd c1
 clear c1
 go_enter Tryz.func103,Tryz.ntmps103
 go_upto_region 1 with(fail)
 refine wp_cutB w (Bc w.heap.size #[.int .i64 K,.slice p len cap,.int .i64 A,.int .i64 R,.int .i64 n,.int .i64 d,.slice q m vc,.int .i64 E] 93<|Bz) ?_
 rintro W1 hW z2 hL
 obtain⟨⟨b1,yb1,k1,f1⟩,-⟩:=id hL
 clear k1 f1
 refine wp_regD 40 42 hW hL ?_
 iterate 5 refine dA ?_
 iterate 4 refine gA ?_
 refine pA ?_
 refine dA ?_
 iterate 4 refine gA ?_
 refine pA ?_
 refine dA ?_
 iterate 4 refine gA ?_
 refine pA ?_
 refine dA ?_
 iterate 3 refine gA ?_
 refine cG (fun hp hx W' hC=>H_c1.out W' (hW.trans (hC.1.of_priv hW.size))) ?_
 refine gA ?_
 refine pA ?_
 refine dA ?_
 iterate 8
  apply nd_detg (p:=true) (c:=undef) (hg:=rfl) (hd:=rfl) (hal:=rfl)
  ·intro v W' h
   simp at h
   simp
   exact h
  ·intro hp hx
   exfalso
   simp at hx
   omega
 apply nd_det (c:= .bool false) (hg:=rfl) (hal:=rfl)
 ·intro a W' hC hE
  have hE1:=hE 32 (by simp[Oper.looksAt,Op.operands])
  simp[envOf,Det,hK1] at hE1
  simp[go_sem,Act.eval,hE1]
 refine dA ?_
 clear hW hL b1
 rintro W3 hW z4 hL
 simp only[ndR]
 intros
 repeat (rename GDet _ _ _ _=>hgd;clear hgd)
 simp only[ndS]
 refine wpList_nil ?_
 obtain⟨⟨b1,yb1,k1,f1⟩,-⟩:=hL
 go_wp2
 refine bodyPost_ret (v:= .bool false) (by simp[results,Tryz.results103,go_sem,k1,f1,yb1]) rfl ⟨rfl,belowAny⟩
end Go.Proofs.YtpdhdjlhicceoaaGreatDoor
namespace Go.Proofs.YtpdhdjlhicceoaaGreatDoor
open Go.RowKit
structure SegT where
 K:Int
 runs:List RunT
 A:Int
 R:Int
 n:Int
 d:Int
 raw:List Int
 E:Int
def segA (s:SegT) (p q:Option Addr) (cap vc:Nat):Array Value:= #[.int .i64 s.K,.slice p s.runs.length cap,.int .i64 s.A,.int .i64 s.R,.int .i64 s.n,.int .i64 s.d,.slice q s.raw.length vc,.int .i64 s.E]
structure SegIn (w:World) (s:SegT) (p q:Option Addr):Prop where
 runs:RunsIn w p s.runs
 raw:IntsIn w q s.raw
 fewR:s.runs.length<=300
 fewV:s.raw.length<=300
theorem SegIn.below {w w':World} {s:SegT} {p q:Option Addr} (h:SegIn w s p q) (hb:Below w.heap.size w w'):SegIn w' s p q:=⟨h.runs.below hb,h.raw.below hb,h.fewR,h.fewV⟩
def firstT (l:List RunT):Int:=atV l 0
def lastT (l:List RunT):Int:=atV l (cnt l-1)
def lineIsB (s:SegT):Bool:=isLine s.A s.R s.n s.d&&endsOk s.A s.R s.n s.d 0 (lastT s.runs-firstT s.runs)&&s.raw.isEmpty
def kindB (s:SegT):Bool:=
 if s.K=1 then s.n==0&&lineIsB s
 else if s.K=2 then s.n !=0&&(s.R==0&&lineIsB s)
 else if s.K=3 then s.R !=0&&lineIsB s
 else if s.K=4 then lineZ s.A s.R s.n s.d&&(s.raw.length:Int)==cnt s.runs&&s.raw.all isBack
 else false
def segB (s:SegT):Bool:=risesB s.runs&&(decide (0<=s.E)&&decide (s.E<=1099511627776)&&kindB s)
theorem cnt_pos {l:List RunT} (h:RunsOk l):1<=cnt l/\cnt l<=256:=by
 refine⟨?_,h.count⟩
 have:=h.some'
 cases l with
 |nil=>simp at this
 |cons r l=>
  have a:=(h.each r (by simp)).c0
  have b:=cnt_nonneg l fun r hr=>h.each r (by simp[hr])
  simp only[cnt];omega
theorem atL_some {l:List RunT} (h:RunsOk l) {i:Int} (h0:0<=i) (h1:i<cnt l):∃v,atL l i=some v/\v∈timesL l/\atV l i=v/\atE l i=0:=by
 obtain⟨k,rfl⟩:∃k:Nat,i=(k:Int):=⟨i.toNat,by omega⟩
 have hc:∀r,r∈l->0<=r.c:=fun r hr=>by have:=(h.each r hr).c0;omega
 have hl:=length_timesL l hc
 have hk:k<(timesL l).length:=by omega
 have e:=atL_eq l k hc
 rw[List.getElem?_eq_getElem hk] at e
 exact⟨_,e,List.getElem_mem hk,atV_some e,atE_some e⟩
theorem at_in {l:List RunT} (h:RunsOk l) {i:Int} (h0:0<=i) (h1:i<cnt l):0<=atV l i/\atV l i<=281474976710656:=by
 obtain⟨v,_,hm,e,_⟩:=atL_some h h0 h1
 rw[e];exact times_in l h v hm
theorem c_at (p:Option Addr) (cap:Nat) (l:List RunT) (i:Int) (w:World) (hl:RunsOk l) (h:RunsIn w p l) (h0:0<=i) (h1:i<cnt l):
  Cb 100 #[.slice p l.length cap,.int .i64 i] w (.tuple #[.int .i64 (atV l i),.int .i64 0]):=by
 obtain⟨v,e,_,_,e0⟩:=atL_some hl h0 h1
 have:=at_w p cap l i w hl h h0 (by have:=hl.count;omega)
 rw[e0] at this
 exact this
theorem at_mono {l:List RunT} (h:RunsOk l) {i j:Int} (h0:0<=i) (h1:i<=j) (h2:j<cnt l):atV l i<=atV l j:=by
 rcases Int.lt_or_eq_of_le h1 with hlt|rfl
 ·obtain⟨a,rfl⟩:∃k:Nat,i=(k:Int):=⟨i.toNat,by omega⟩
  obtain⟨b,rfl⟩:∃k:Nat,j=(k:Int):=⟨j.toNat,by omega⟩
  have hc:∀r,r∈l->0<=r.c:=fun r hr=>by have:=(h.each r hr).c0;omega
  have hl:=length_timesL l hc
  have hp:=times_pairwise l h.each h.chain
  have ha:a<(timesL l).length:=by omega
  have hb:b<(timesL l).length:=by omega
  have e1:=atL_eq l a hc
  have e2:=atL_eq l b hc
  rw[List.getElem?_eq_getElem ha] at e1
  rw[List.getElem?_eq_getElem hb] at e2
  rw[atV_some e1,atV_some e2]
  exact Int.le_of_lt (List.pairwise_iff_getElem.1 hp a b ha hb (by omega))
 ·exact Int.le_refl _
theorem c_rcount_ok (p:Option Addr) (cap:Nat) (l:List RunT) (w:World) (hl:RunsOk l) (h:RunsIn w p l):
  Cb 101 #[.slice p l.length cap] w (.int .i64 (cnt l)):=by
 have:=c_rcount p cap l w (by have:=hl.few;omega) h
 rw[if_pos ((risesB_iff l).2 hl)] at this
 exact this
theorem c_span (s:SegT) (p q:Option Addr) (cap vc:Nat) (w:World) (hl:RunsOk s.runs) (h:SegIn w s p q):
  Cb 141 #[.agg (segA s p q cap vc)] w (.tuple #[.int .i64 (firstT s.runs),.int .i64 (lastT s.runs-firstT s.runs)]):=by
 obtain⟨n0,n1⟩:=cnt_pos hl
 exact span_w _ _ _ _ _ _ p q _ cap _ vc w (firstT s.runs) (lastT s.runs) (cnt s.runs) (at_in hl (by omega) (by omega)) (at_in hl (by omega) (by omega)) ⟨by omega,n1⟩
  (fun W hW=>c_at p cap s.runs 0 W hl (h.runs.below hW) (by omega) (by omega))
  (fun W hW=>c_rcount_ok p cap s.runs W hl (h.runs.below hW))
  (fun W hW=>c_at p cap s.runs (cnt s.runs-1) W hl (h.runs.below hW) (by omega) (by omega))
theorem c_lineIs (s:SegT) (p q:Option Addr) (cap vc:Nat) (w:World) (hl:RunsOk s.runs) (h:SegIn w s p q):
  Cb 181 #[.agg (segA s p q cap vc)] w (.bool (lineIsB s)):=by
 obtain⟨n0,n1⟩:=cnt_pos hl
 have hs:=fun W (hW:Below w.heap.size w W)=>c_span s p q cap vc W hl (h.below hW)
 have hf:=at_in hl (show (0:Int)<=0 by omega) (by omega)
 have hla:=at_in hl (show 0<=cnt s.runs-1 by omega) (by omega)
 have hm:=at_mono hl (show (0:Int)<=0 by omega) (show 0<=cnt s.runs-1 by omega) (by omega)
 unfold lineIsB
 cases hL:isLine s.A s.R s.n s.d with
 |false=>
  exact lineis_no _ _ _ _ _ _ p q _ cap _ vc w _ _ 0 0 hs (fun W _=>c_Ends_no s.A s.R s.n s.d 0 _ W hL)
 |true=>
  have hE:=fun W (_:Below w.heap.size w W)=>c_Ends s.A s.R s.n s.d 0 (lastT s.runs-firstT s.runs) W (isLine_ok.1 hL) (by omega) (by unfold lastT firstT;omega) (by unfold lastT firstT;omega)
  cases hO:endsOk s.A s.R s.n s.d 0 (lastT s.runs-firstT s.runs) with
  |false=>
   rw[hO] at hE
   exact lineis_over _ _ _ _ _ _ p q _ cap _ vc w _ _ _ _ hs hE
  |true=>
   rw[hO] at hE
   cases hr:s.raw with
   |nil=>
    have hz:s.raw.length=0:=by rw[hr];rfl
    unfold segA at hs⊢
    rw[hz] at hs⊢
    exact lineis_yes _ _ _ _ _ _ p q _ cap 0 vc w _ _ _ _ hs hE
   |cons x l=>exact lineis_raw _ _ _ _ _ _ p q _ cap _ vc w _ _ _ _ (by rw[hr];simp) hs hE
theorem c_segIs (s:SegT) (p q:Option Addr) (cap vc:Nat) (w:World) (h:SegIn w s p q):
  Cb 103 #[.agg (segA s p q cap vc)] w (.bool (segB s)):=by
 have c1:=fun W (hW:Below w.heap.size w W)=>c_rcheck p cap s.runs W (by have:=h.fewR;omega) (h.runs.below hW)
 unfold segB
 by_cases hK:1<=s.K/\s.K<=4
 ·cases hr:risesB s.runs with
  |false=>
   rw[hr] at c1
   exact is_runs _ _ _ _ _ _ p q _ cap _ vc w c1
  |true=>
   rw[hr] at c1
   have hl:=(risesB_iff s.runs).1 hr
   have hli:=fun W (hW:Below w.heap.size w W)=>c_lineIs s p q cap vc W hl (h.below hW)
   rw[Bool.true_and]
   have hk:s.K=1∨s.K=2∨s.K=3∨s.K=4:=by omega
   unfold kindB
   rcases hk with e|e|e|e
   ·rw[if_pos e]
    unfold segA at hli⊢
    rw[e] at hli⊢
    refine is_1 0 _ _ _ _ _ p q _ cap _ vc w _ c1 ?_
    intro W hW
    by_cases hn:s.n=0
    ·have hli':=fun W' (hW':Below W.heap.size W W')=>hli W' (hW.trans (hW'.mono hW.size))
     rw[hn] at hli'⊢
     simpa using kind1_flat _ _ _ 0 _ _ p q _ cap _ vc W _ hli'
    ·have:(s.n==0)=false:=by simpa using hn
     rw[this]
     exact kind1_no _ _ _ _ _ _ p q _ cap _ vc W true this
   ·rw[if_neg (by omega),if_pos e]
    unfold segA at hli⊢
    rw[e] at hli⊢
    refine is_2 0 _ _ _ _ _ p q _ cap _ vc w _ c1 ?_
    intro W hW
    have hli':=fun W' (hW':Below W.heap.size W W')=>hli W' (hW.trans (hW'.mono hW.size))
    by_cases hn:s.n=0
    ·rw[hn]
     exact kind2_flat _ _ _ 0 _ _ p q _ cap _ vc W true
    ·have hn':(s.n !=0)=true:=by simpa using hn
     rw[hn',Bool.true_and]
     by_cases hR:s.R=0
     ·rw[hR] at hli'⊢
      simpa using kind2_tilt _ _ 0 _ _ _ p q _ cap _ vc W _ hn' hli'
     ·have hR':(s.R==0)=false:=by simpa using hR
      rw[hR']
      exact kind2_free _ _ _ _ _ _ p q _ cap _ vc W true hn' hR'
   ·rw[if_neg (by omega),if_neg (by omega),if_pos e]
    unfold segA at hli⊢
    rw[e] at hli⊢
    refine is_3 0 _ _ _ _ _ p q _ cap _ vc w _ c1 ?_
    intro W hW
    have hli':=fun W' (hW':Below W.heap.size W W')=>hli W' (hW.trans (hW'.mono hW.size))
    by_cases hR:s.R=0
    ·rw[hR]
     exact kind3_no _ _ 0 _ _ _ p q _ cap _ vc W true
    ·have hR':(s.R !=0)=true:=by simpa using hR
     rw[hR',Bool.true_and]
     exact kind3_free _ _ _ _ _ _ p q _ cap _ vc W _ hR' hli'
   ·rw[if_neg (by omega),if_neg (by omega),if_neg (by omega),if_pos e]
    unfold segA
    rw[e]
    refine is_4 0 _ _ _ _ _ p q _ cap _ vc w _ c1 ?_
    intro W hW
    have:=rawis_w 4 s.A s.R s.n s.d s.E p q s.runs.length cap s.raw.length vc W (cnt s.runs) (!(s.raw.all isBack))
     (fun W' hW'=>c_rcount_ok p cap s.runs W' hl (h.runs.below (hW.trans (hW'.mono hW.size))))
     (fun W' hW'=>c_contains q vc s.raw W' (by have:=h.fewV;omega) (h.raw.below (hW.trans (hW'.mono hW.size))))
    rw[Bool.not_not] at this
    exact this
 ·have hk:kindB s=false:=by
   unfold kindB
   rw[if_neg (by omega),if_neg (by omega),if_neg (by omega),if_neg (by omega)]
  rw[hk]
  simp only[Bool.and_false]
  exact is_kind _ _ _ _ _ _ p q _ cap _ vc w _ hK c1
theorem RunsIn.alloc {w:World} {p:Option Addr} {l:List RunT} (h:RunsIn w p l) (o:Obj):RunsIn (w.alloc o) p l:=h.below ((Below.refl _ _).alloc (Nat.le_refl _) o)
theorem RunsIn.calls {w w':World} {p:Option Addr} {l:List RunT} (h:RunsIn w p l) (hb:Below w.heap.size w w'):RunsIn w' p l:=h.below hb
theorem RunsIn.set {w:World} {g x o i:Nat} {v:Value} {l:List RunT} (h:RunsIn w (some ⟨g,x,none⟩) l) (hne:g≠o):RunsIn (w.setCell ⟨o,i,none⟩ v) (some ⟨g,x,none⟩) l:=⟨fun k r hr=>by
 obtain⟨b,y,e,h1,h2,h3⟩:=h.at' k r hr
 cases e
 have hc:∀z,(w.setCell ⟨o,i,none⟩ v).cell? ⟨g,z,none⟩=w.cell? ⟨g,z,none⟩:=by
  intro z
  have:=heap_setCell_other w ⟨o,i,none⟩ g v hne
  simp only[World.cell?,this]
 exact⟨g,x,rfl,(hc _).trans h1,(hc _).trans h2,(hc _).trans h3⟩⟩
def lpRel (K A R n d E:Int) (p q:Option Addr) (len cap m vc:Nat) (w:World) (i j x lo hi:Int) (P:List RunT) (SS:Nat->Int) (g o:Nat) (a':Act) (W:World):Prop:=
 Below w.heap.size w W/\Blk W w.heap.size #[.int .i64 K,.slice p len cap,.int .i64 A,.int .i64 R,.int .i64 n,.int .i64 d,.slice q m vc,.int .i64 E] 93/\Blk W (w.heap.size+1) #[.int .i64 0,.int .i64 0,.int .i64 0,.int .i64 0,.int .u64 0] 281/\RunsIn W (some ⟨g,0,none⟩) P/\∃k:Nat,(∃u:Nat->Value,a'= {tmps:= #[u 0,u 1,u 2,.pointer (some ⟨w.heap.size,0,none⟩),u 4,u 5,.pointer (some ⟨w.heap.size+1,0,none⟩),.int .i64 x,u 8,u 9,u 10,u 11,u 12,u 13,u 14,.pointer (some ⟨o,0,none⟩),u 16,u 17,u 18,u 19,u 20,u 21,u 22,u 23,u 24,u 25,u 26,u 27,u 28,u 29,u 30,u 31,u 32,u 33,u 34,u 35,u 36,u 37,u 38,u 39,u 40,u 41,u 42,u 43,u 44,u 45,u 46,u 47,u 48,u 49,u 50,u 51,u 52,u 53,u 54,u 55,u 56,u 57,u 58,u 59,u 60,u 61,u 62,u 63,u 64,u 65,u 66,u 67,u 68,u 69,u 70,u 71,u 72,u 73,.slice (some ⟨g,0,none⟩) P.length P.length,.int .i64 (P.length:Int),.int .i64 (k:Int),u 77,u 78,u 79,u 80,u 81,u 82,u 83,u 84,u 85,u 86,u 87,u 88,u 89,u 90,u 91,u 92,u 93,u 94,u 95,u 96,u 97,u 98,u 99,u 100,u 101,u 102,u 103,u 104],defers:= []})/\k<=P.length/\Blk W o #[.int .i64 (j-i),.int .i64 lo,.int .i64 hi,.int .i64 (hiW (SS k)),.int .u64 (loW (SS k))] 281
end Go.Proofs.YtpdhdjlhicceoaaGreatDoor
