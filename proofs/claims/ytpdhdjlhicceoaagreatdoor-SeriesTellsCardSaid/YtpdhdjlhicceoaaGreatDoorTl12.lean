/- Parts of the proof that follows. No condition. -/
import Derived.RegionTactic
import Derived.ChangeAlike
import Derived.Test.YtpdhdjlhicceoaaGreatDoorTl11
set_option maxRecDepth 100000
set_option maxHeartbeats 8000000
set_option linter.unusedSimpArgs false
set_option linter.unusedVariables false
namespace Go.Proofs.YtpdhdjlhicceoaaGreatDoor
open Go.RowKit
theorem line_first {A R n d:Int} (h:isLine A R n d=true) (hn:n=0):R=0:=by
 unfold isLine at h
 simp only[Bool.and_eq_true,decide_eq_true_eq] at h
 obtain⟨⟨⟨⟨_,hs⟩,hg⟩,h0⟩,h1⟩:=h
 have:=isSlope_bd hs
 subst hn
 unfold gcdI at hg
 simp at hg
 omega
theorem ends_iff {s:SegT} (hl:RunsOk s.runs) (hi:isLine s.A s.R s.n s.d=true):endsOk s.A s.R s.n s.d 0 (lastT s.runs-firstT s.runs)=((timesL s.runs).map (valAt s)).all isBack:=by
 rw[Bool.eq_iff_iff]
 constructor
 ·intro h
  have hL:LineSeg s:=⟨hl,isLine_ok.1 hi,h⟩
  rw[List.all_eq_true]
  intro y hy
  obtain⟨t,ht,rfl⟩:=List.mem_map.1 hy
  have:=mem_times hl ht
  exact hL.back this.1 this.2.1
 ·intro h
  rw[List.all_eq_true] at h
  have hc:=cnt_pos hl
  have key:∀i:Int,0<=i->i<cnt s.runs->isBack (valAt s (atV s.runs i))=true:=by
   intro i h0 h1
   obtain⟨v,_,hm,e,_⟩:=atL_some hl h0 h1
   rw[e]
   exact h _ (List.mem_map_of_mem hm)
  have a:=key 0 (by omega) (by omega)
  have b:=key (cnt s.runs-1) (by omega) (by omega)
  unfold endsOk
  unfold valAt firstT at a b
  rw[show atV s.runs 0-atV s.runs 0=0 by omega] at a
  rw[Bool.and_eq_true]
  exact⟨a,b⟩
theorem vals_line {s:SegT} (hK:s.K≠4):vals s=(timesL s.runs).map (valAt s):=by unfold vals;rw[if_neg hK]
theorem vals_raw {s:SegT} (hK:s.K=4):vals s=s.raw:=by unfold vals;rw[if_pos hK]
theorem kindB_line {s:SegT} (hl:RunsOk s.runs) (hK:s.K≠4):kindB s=(!(decide (0<s.raw.length)|| !isLine s.A s.R s.n s.d||s.K !=kindR s.R s.n)&&(vals s).all isBack):=by
 rw[vals_line hK]
 unfold kindB lineIsB
 cases hi:isLine s.A s.R s.n s.d with
 |false=>simp[hK]
 |true=>
  rw[<-ends_iff hl hi]
  generalize endsOk s.A s.R s.n s.d 0 (lastT s.runs-firstT s.runs)=e
  have hr:s.raw.isEmpty= !decide (0<s.raw.length):=by cases s.raw<;>simp
  rw[hr]
  unfold kindR
  by_cases h1:s.n=0
  ·have h2:=line_first hi h1
   by_cases k1:s.K=1
   ·simp[h1,k1,Bool.and_comm]
   ·by_cases k2:s.K=2
    ·simp[h1,k2]
    ·by_cases k3:s.K=3
     ·simp[h1,h2,k3]
     ·simp[h1,k1,k2,k3,hK]
  ·by_cases h2:s.R=0
   ·by_cases k1:s.K=1
    ·simp[h1,h2,k1]
    ·by_cases k2:s.K=2
     ·simp[h1,h2,k2,Bool.and_comm]
     ·by_cases k3:s.K=3
      ·simp[h1,h2,k3]
      ·simp[h1,h2,k1,k2,k3,hK]
   ·by_cases k1:s.K=1
    ·simp[h1,h2,k1]
    ·by_cases k2:s.K=2
     ·simp[h1,h2,k2]
     ·by_cases k3:s.K=3
      ·simp[h1,h2,k3,Bool.and_comm]
      ·simp[h1,h2,k1,k2,k3,hK]
theorem kindB_raw {s:SegT} (hK:s.K=4):kindB s=(lineZ s.A s.R s.n s.d&&(s.raw.length:Int)==cnt s.runs&&(vals s).all isBack):=by
 rw[vals_raw hK]
 unfold kindB
 simp[hK]
theorem c_refTimes {p:Option Addr} {cap:Nat} {l:List RunT} {w:World} (hl:RunsOk l) (h:RunsIn w p l) (hlen:l.length<=300):∀W,Below w.heap.size w W->Calls Tryz.prog 86 #[.slice p l.length cap] W fun e w'=>∃v,e= .returned v/\OwnR w' W.heap.size 2 1 v (timesL l).length ((timesL l).map (Value.int .i64))/\Below W.heap.size W w':=by
 intro W hW
 have:=reftimes_w p cap l W (h.below hW) (by omega)
 rw[times_ok hl] at this
 exact this
def PtsDom (s:SegT):Prop:=(s.K=4/\(s.raw.length:Int)=cnt s.runs)∨(s.K≠4/\isLine s.A s.R s.n s.d=true)
theorem length_tl {l:List RunT} (hl:RunsOk l):1<=(timesL l).length/\(timesL l).length<=256:=by
 have h1:=length_times hl
 have h2:=cnt_pos hl
 omega
theorem c_refPts (s:SegT) (p q:Option Addr) (cap vc:Nat) (w:World) (h:SegIn w s p q) (hl:RunsOk s.runs) (hd:PtsDom s):
  Calls Tryz.prog 117 #[.agg (segA s p q cap vc)] w (PtsPost w (timesL s.runs) (vals s)):=by
 have ht:=length_times hl
 have h256:=length_tl hl
 have c1:=fun(W:World) (hW:Below w.heap.size w W)=>c_refTimes (cap:=cap) hl h.runs h.fewR W hW
 rcases hd with⟨hK,hr⟩|⟨hK,hi⟩
 ·rw[vals_raw hK]
  obtain⟨b,o,e,_⟩:=h.raw.at' 0 _ (List.getElem?_eq_getElem (show 0<s.raw.length by omega))
  have hraw:=h.raw
  rw[e] at hraw
  have:=pts_raw s.A s.R s.n s.d s.E p s.runs.length cap b o vc (timesL s.runs) s.raw w ⟨hraw⟩ (by omega) h256.1 h256.2 c1
  unfold segA
  rw[hK,e]
  exact this
 ·rw[vals_line hK]
  have hx0:(timesL s.runs)[0]? =some (firstT s.runs):=at_times hl (k:=0) (by omega)
  have hv:∀(i:Nat) (x y:Int),(timesL s.runs)[i]? =some x->((timesL s.runs).map (valAt s))[i]? =some y->0<=x-firstT s.runs/\x-firstT s.runs<=281474976710656/\y=lineVal s.A s.R s.n s.d (x-firstT s.runs):=by
   intro i x y hx hy
   rw[List.getElem?_map,hx] at hy
   have hm:=mem_times hl (List.mem_of_getElem? hx)
   have hf:=first_in hl
   simp at hy
   exact⟨by omega,by omega,by rw[<-hy];rfl⟩
  refine pts_line s.K s.A s.R s.n s.d s.E (firstT s.runs) p q s.runs.length cap s.raw.length vc (timesL s.runs) _ w (by simp[hK]) (by simp) h256.1 h256.2 hx0 (fun x hx=>by have:=mem_times hl hx;omega) c1 ?_ ?_
  ·intro W i x y hx hy hb
   obtain⟨a1,a2,rfl⟩:=hv i x y hx hy
   exact c_rat_yes hi a1 a2 hb W
  ·intro W i x y hx hy hb
   obtain⟨a1,a2,rfl⟩:=hv i x y hx hy
   exact c_rat_no hi a1 a2 hb W
theorem c_refPtsOk (s:SegT) (p q:Option Addr) (cap vc:Nat) (w:World) (h:SegIn w s p q) (hl:RunsOk s.runs) (hd:PtsDom s):
  Calls Tryz.prog 117 #[.agg (segA s p q cap vc)] w fun e w'=>∃v,e= .returned (.tuple #[v,.bool ((vals s).all isBack)])/\Below w.heap.size w w':=by
 refine(c_refPts s p q cap vc w h hl hd).mono ?_
 rintro e w' ⟨hB,⟨h1,v,rfl,_⟩|⟨h1,rfl⟩⟩
 ·exact⟨v,by rw[h1],hB⟩
 ·exact⟨_,by rw[h1],hB⟩
theorem c_refRight (s:SegT) (p q:Option Addr) (cap vc:Nat) (w:World) (h:SegIn w s p q):
  Cb 84 #[.agg (segA s p q cap vc)] w (.bool (segB s)):=by
 have c1:=fun(W:World) (hW:Below w.heap.size w W)=>c_refright p cap s.runs W (by have:=h.fewR;omega) (h.runs.below hW)
 unfold segB
 cases hr:risesB s.runs with
 |false=>
  rw[hr] at c1
  rw[Bool.false_and]
  exact rr_no1 s.K s.A s.R s.n s.d s.E p q s.runs.length cap s.raw.length vc w c1
 |true=>
  rw[hr] at c1
  rw[Bool.true_and]
  have hl:=(risesB_iff _).1 hr
  by_cases hE:s.E<0∨1099511627776<s.E
  ·rw[show (decide (0<=s.E)&&decide (s.E<=1099511627776)&&kindB s)=false by
    rcases hE with hE|hE
    ·rw[decide_eq_false (show¬0<=s.E by omega)];rfl
    ·rw[decide_eq_false (show¬s.E<=1099511627776 by omega),Bool.and_false];rfl]
   exact rr_no2 s.K s.A s.R s.n s.d s.E p q s.runs.length cap s.raw.length vc w hE c1
  ·have hE0:0<=s.E:=by omega
   have hE1:s.E<=1099511627776:=by omega
   rw[decide_eq_true hE0,decide_eq_true hE1,Bool.true_and,Bool.true_and]
   by_cases hK:s.K=4
   ·rw[kindB_raw hK]
    have ht:=length_times hl
    have c2:=fun(W:World) (hW:Below w.heap.size w W)=>c_refTimes (cap:=cap) hl h.runs h.fewR W hW
    cases hz:lineZ s.A s.R s.n s.d with
    |false=>
     have:=rr_raw0 s.A s.R s.n s.d s.E p q s.runs.length cap s.raw.length vc w hE0 hE1 (Hd hz) c1
     unfold segA
     rw[hK]
     exact this
    |true=>
     by_cases hm:(s.raw.length:Int)=cnt s.runs
     ·rw[show ((s.raw.length:Int)==cnt s.runs)=true by simp[hm],Bool.true_and,Bool.true_and]
      have c3:=fun(W:World) (hW:Below w.heap.size w W)=>c_refPtsOk s p q cap vc W (h.below hW) hl (.inl ⟨hK,hm⟩)
      unfold segA at c3⊢
      rw[hK] at c3⊢
      exact rr_raw2 s.A s.R s.n s.d s.E p q s.runs.length cap s.raw.length vc w (timesL s.runs) _ (Hd (by omega)) hE0 hE1 (Hd hz) c1 c2 c3
     ·rw[show ((s.raw.length:Int)==cnt s.runs)=false by simp[hm],Bool.and_false,Bool.false_and]
      have:=rr_raw1 s.A s.R s.n s.d s.E p q s.runs.length cap s.raw.length vc w (timesL s.runs) (by omega) hE0 hE1 (Hd hz) c1 c2
      unfold segA
      rw[hK]
      exact this
   ·rw[kindB_line hl hK]
    cases hF:(decide (0<s.raw.length)|| !isLine s.A s.R s.n s.d||s.K !=kindR s.R s.n) with
    |true=>exact rr_line0 s.K s.A s.R s.n s.d s.E p q s.runs.length cap s.raw.length vc w (by simp[hK]) (Hd hF) hE0 hE1 c1
    |false=>
     have hi:isLine s.A s.R s.n s.d=true:=by
      cases hi:isLine s.A s.R s.n s.d with
      |true=>rfl
      |false=>rw[hi] at hF;simp at hF
     rw[Bool.not_false,Bool.true_and]
     exact rr_line1 s.K s.A s.R s.n s.d s.E p q s.runs.length cap s.raw.length vc w _ (by simp[hK]) (Hd hF) hE0 hE1 c1 (fun W hW=>c_refPtsOk s p q cap vc W (h.below hW) hl (.inr ⟨hK,hi⟩))
theorem c_r18Letter (r:Nat) (w:World):Cb 82 #[.int .u8 r] w (.bool (letterB r)):=by
 go_enter Tryz.func82,Tryz.ntmps82
 go_upto_region 1 with(fail)
 refine wp_cutB w (Bz) ?_
 rintro W1 hW z2 hL
 refine wp_regS 15 17 hW hL ?_
 iterate 3 refine dA ?_
 iterate 2 refine gA ?_
 refine pA ?_
 refine dA ?_
 iterate 3 refine gA ?_
 iterate 2 refine gB ?_
 refine pgA ?_
 refine pO ?_
 refine dA ?_
 clear hW hL
 rintro W3 hW z4 hL
 simp only[ndR]
 intros
 repeat (rename GDet _ _ _ _=>hgd;clear hgd)
 simp only[ndS]
 refine wpList_nil ?_
 obtain⟨-⟩:=hL
 go_wp2
 refine bodyPost_ret (v:= .bool ((decide (97<=(r:Int))&&decide ((r:Int)<=122))||(decide (48<=(r:Int))&&decide ((r:Int)<=57)))) (by simp[results,Tryz.results82,go_sem]) rfl ⟨?_,by exact belowAny⟩
 congr 2
 unfold letterB
 rw[Bool.eq_iff_iff]
 simp only[Bool.or_eq_true,Bool.and_eq_true,decide_eq_true_eq]
 omega
theorem c_r18Time (n:Int) (w:World):Cb 47 #[.int .i64 n] w (.bool (btw n (0) 281474976710656)):=by
 unfold btw
 go_enter Tryz.func47,Tryz.ntmps47
 go_upto_region 1 with(fail)
 refine wp_cutB w (Bz) ?_
 rintro W1 hW z2 hL
 refine wp_regS 7 9 hW hL ?_
 iterate 3 refine dA ?_
 iterate 2 refine gA ?_
 refine pA ?_
 refine dA ?_
 clear hW hL
 rintro W3 hW z4 hL
 simp only[ndR]
 intros
 repeat (rename GDet _ _ _ _=>hgd;clear hgd)
 simp only[ndS]
 refine wpList_nil ?_
 obtain⟨-⟩:=hL
 go_wp2
 refine bodyPost_ret (by simp[results,Tryz.results47,go_sem]) rfl ⟨rfl,by exact belowAny⟩
theorem c_r13Eps (n:Int) (w:World):Cb 40 #[.int .i64 n] w (.bool (btw n (0) 1099511627776)):=by
 unfold btw
 go_enter Tryz.func40,Tryz.ntmps40
 go_upto_region 1 with(fail)
 refine wp_cutB w (Bz) ?_
 rintro W1 hW z2 hL
 refine wp_regS 7 9 hW hL ?_
 iterate 3 refine dA ?_
 iterate 2 refine gA ?_
 refine pA ?_
 refine dA ?_
 clear hW hL
 rintro W3 hW z4 hL
 simp only[ndR]
 intros
 repeat (rename GDet _ _ _ _=>hgd;clear hgd)
 simp only[ndS]
 refine wpList_nil ?_
 obtain⟨-⟩:=hL
 go_wp2
 refine bodyPost_ret (by simp[results,Tryz.results40,go_sem]) rfl ⟨rfl,by exact belowAny⟩
theorem c_r24Scale (n:Int) (w:World):Cb 41 #[.int .i64 n] w (.bool (btw n (-40) 40)):=by
 unfold btw
 go_enter Tryz.func41,Tryz.ntmps41
 go_upto_region 1 with(fail)
 refine wp_cutB w (Bz) ?_
 rintro W1 hW z2 hL
 refine wp_regS 7 9 hW hL ?_
 iterate 3 refine dA ?_
 iterate 2 refine gA ?_
 refine pA ?_
 refine dA ?_
 clear hW hL
 rintro W3 hW z4 hL
 simp only[ndR]
 intros
 repeat (rename GDet _ _ _ _=>hgd;clear hgd)
 simp only[ndS]
 refine wpList_nil ?_
 obtain⟨-⟩:=hL
 go_wp2
 refine bodyPost_ret (by simp[results,Tryz.results41,go_sem]) rfl ⟨rfl,by exact belowAny⟩
theorem c_r13Point (t v:Int) (w:World):Cb 50 #[.agg #[.int .i64 t,.int .i64 v]] w (.bool (btw t 0 281474976710656&&btw v (-2305843009213693952) 2305843009213693952)):=by
 unfold btw
 rw[<-Bool.and_assoc]
 go_enter Tryz.func50,Tryz.ntmps50
 go_upto_region 1 with(fail)
 refine wp_cutB w (Bc w.heap.size #[.int .i64 t,.int .i64 v] 53<|Bz) ?_
 rintro W1 hW z2 hL
 refine wp_regS 19 21 hW hL ?_
 iterate 4 refine dA ?_
 iterate 3 refine gA ?_
 refine pA ?_
 refine dA ?_
 iterate 3 refine gA ?_
 refine pA ?_
 refine dA ?_
 iterate 3 refine gA ?_
 refine pA ?_
 refine dA ?_
 clear hW hL
 rintro W3 hW z4 hL
 simp only[ndR]
 intros
 repeat (rename GDet _ _ _ _=>hgd;clear hgd)
 simp only[ndS]
 refine wpList_nil ?_
 obtain⟨⟨b1,yb1,k1,f1⟩,-⟩:=hL
 go_wp2
 refine bodyPost_ret (by simp[results,Tryz.results50,go_sem,k1,f1,yb1]) rfl ⟨rfl,by exact belowAny⟩
theorem let_step (s:ByteArray) (f pos:Nat) (h:pos<s.size):lettersB s (f+1) pos=(letterB (s[pos]'h).toNat&&lettersB s f (pos+1)):=by
 have e:lettersB s (f+1) pos=(letterB (Utf8.decode s pos).1&&lettersB s f (pos+(Utf8.decode s pos).2)):=by simp[lettersB,h]
 rw[e]
 by_cases ha:(s[pos]'h).toNat<128
 ·rw[decode_ascii s pos h ha]
 ·have h1:=(decode_high s pos h (by omega)).1
  have n1:letterB (Utf8.decode s pos).1=false:=by unfold letterB;simp;omega
  have n2:letterB (s[pos]'h).toNat=false:=by unfold letterB;simp;omega
  rw[n1,n2,Bool.false_and,Bool.false_and]
def nm18Rel (w:World) (s:ByteArray) (a':Act) (W:World):Prop:=
 Below w.heap.size w W/\∃i f:Nat,(∃u:Nat->Value,a'= {tmps:= #[.string s,u 1,u 2,u 3,.string s,.int .i64 (s.size:Int),.int .i64 (i:Int),u 7,u 8,u 9,u 10,u 11,u 12,u 13,u 14,u 15,u 16,u 17,u 18,u 19,u 20,u 21,u 22],defers:= []})/\s.size<=i+f/\lettersB s f i=lettersB s s.size 0/\i<=s.size
theorem c_r18Name (s:ByteArray) (w:World) (hs9:s.size<=1000):Cb 39 #[.string s] w (.bool (nameB s)):=by
 go_enter Tryz.func39,Tryz.ntmps39
 go_wp2
 refine wp_loop (nm18Rel w s) (fun a' _=>s.size-(intAt (a'.tmps.getD 6 undef)).toNat) ?_ ?_
 ·unfold nm18Rel
  exact⟨Below.refl _ _,0,s.size,frame_ex rfl,by omega,rfl,by omega⟩
 ·rintro a' W ⟨hW,i,f,⟨u,rfl⟩,hf,hlet,hi⟩
  have hz:=hW.size
  rcases Nat.lt_or_ge i s.size with hlt|hge
  ·obtain⟨f,rfl⟩:∃g,f=g+1:=⟨f-1,by omega⟩
   rw[let_step s f i hlt] at hlet
   obtain⟨c,hc⟩:∃c,(s[i]'hlt).toNat=c:=⟨_,rfl⟩
   have hix:∀W,(Instr.index 9 (.string s) (.int .i64 (i:Int))).run Tryz.prog W= .ok (.int .u8 (c:Int)) W:=fun W=>by
    rw[run_index_string _ _ _ _ _ (by kernel_rfl),dif_pos (by omega)]
    simp only[Int.toNat_natCast,hc]
   rw[hc] at hlet
   have cl:=fun W=>c_r18Letter c W
   obtain⟨b,hb⟩:∃b,letterB c=b:=⟨_,rfl⟩
   rw[hb] at cl hlet
   clear hc hb
   replace cl:=Hd cl
   replace hlet:=Hd hlet
   cases b with
   |true=>
    go_wp2_with fail
    refine(cl.out _).mono ?_
    rintro e w5 ⟨rfl,hb5⟩
    go_wp2
    rw[show (i:Int)+1=((i+1:Nat):Int) by omega]
    refine⟨?_,by simp[intAt];omega⟩
    unfold nm18Rel
    exact⟨hW.trans (hb5.mono hz),i+1,f,frame_ex rfl,by omega,by rw[<-hlet.out];rfl,by omega⟩
   |false=>
    have hno:=Hd (show nameB s=false by unfold nameB;rw[<-hlet.out];simp)
    go_wp2_with fail
    refine(cl.out _).mono ?_
    rintro e w5 ⟨rfl,hb5⟩
    go_wp2
    go_ret
    exact⟨by rw[hno.out];rfl,hW.trans (hb5.mono hz)⟩
  ·have hall:lettersB s s.size 0=true:=by
    rw[<-hlet]
    cases f with
    |zero=>rfl
    |succ f=>simp[lettersB,Nat.not_lt.2 hge]
   clear hlet
   have hnm:nameB s=(decide (1<=(s.size:Int))&&decide ((s.size:Int)<=12)):=by
    unfold nameB
    rw[hall,Bool.and_true,Bool.eq_iff_iff]
    simp only[Bool.and_eq_true,decide_eq_true_eq]
    omega
   replace hnm:=Hd hnm
   clear hall
   go_upto_region 7 with(fail)
   refine wp_cutB w (Bz) ?_
   clear hW
   rintro W21 hW z22 hL
   refine wp_regS 9 23 hW hL ?_
   iterate 4 refine dA ?_
   iterate 3 refine gA ?_
   refine pA ?_
   refine dA ?_
   clear hW hL
   rintro W23 hW z24 hL
   simp only[ndR]
   intros
   repeat (rename GDet _ _ _ _=>hgd;clear hgd)
   simp only[ndS]
   refine wpList_nil ?_
   obtain⟨-⟩:=hL
   go_wp2
   refine bodyPost_ret (v:= .bool (decide (1<=(s.size:Int))&&decide ((s.size:Int)<=12))) (by simp[results,Tryz.results39,go_sem]) rfl ⟨by rw[hnm.out],by exact belowAny⟩
theorem r24last_w (n:Nat) (z:Int) (L:List Int) (K1 A1 R1 m1 d1 E1:Int) (p1 q1:Option Addr) (n1 c1 l1 v1:Nat) (w:World) (hL:L.length=n+1) (hn:n<=300) (hz:L[n]? =some z) (h1:∀W,Below w.heap.size w W->Calls Tryz.prog 86 #[.slice p1 n1 c1] W fun e w'=>∃p k,e= .returned (.slice p (n+1) k)/\IntsIn w' p L/\Below W.heap.size W w'):
  Cb 49 #[.agg #[.int .i64 K1,.slice p1 n1 c1,.int .i64 A1,.int .i64 R1,.int .i64 m1,.int .i64 d1,.slice q1 l1 v1,.int .i64 E1]] w (.int .i64 z):=by
 have E:=Hd (show wrap64 (n:Int)=(n:Int) by rw[wrap64_eq];omega)
 have g0:¬((n:Int)<0):=by omega
 have g1:n<n+1:=by omega
 have g3:(n:Int)<(n:Int)+1:=by omega
 have H_h1:=Hd h1
 clear h1
 go_enter Tryz.func49,Tryz.ntmps49
 go_wp2_with fail
 refine(H_h1.out _ belowAny).mono ?_
 rintro e w1 ⟨p,k,rfl,hI,hb1⟩
 have z2:=hb1.size
 try simp at z2
 refine haveB w w1 (Bc w.heap.size #[.int .i64 K1,.slice p1 n1 c1,.int .i64 A1,.int .i64 R1,.int .i64 m1,.int .i64 d1,.slice q1 l1 v1,.int .i64 E1] 49<|Bz) ?_
 rintro hW z3 ⟨⟨b1,yb1,k1,f1⟩,-⟩
 obtain⟨pb,po,rfl,-⟩:=hI.at' n z hz
 have b2:IntsP w1 pb po L:=⟨hI⟩
 clear hI
 go_upto_region 2 with(fail)
 clear k1 f1
 refine wp_cutB w (Bc w.heap.size #[.int .i64 K1,.slice p1 n1 c1,.int .i64 A1,.int .i64 R1,.int .i64 m1,.int .i64 d1,.slice q1 l1 v1,.int .i64 E1] 49<|Rc (fun W'=>IntsP W' pb po L)<|Bz) ?_ (hI:=by exact belowAny) (hR:=(Bc.mk (by exact blkAny2)<|Rc.mk (by first|exact b2|exact b2.below (by assumption)|exact b2.below belowAny)<|trivial))
 clear b1 b2 hW
 rintro W4 hW z5 hL
 obtain⟨⟨b1,yb1,k1,f1⟩,b2,-⟩:=id hL
 clear k1 f1
 refine wp_regS 7 13 hW hL ?_
 iterate 7 refine dE (fun W' hC=>aI (hC.2.2.1.cellAt hz) (aI E.out (aI g0 (aI g1 (aI g3 (Nat.not_le.2 g1)))))) ?_
 clear hW hL b1 b2
 rintro W6 hW z7 hL
 simp only[ndR]
 intros
 simp only[ndS]
 refine wpList_nil ?_
 obtain⟨⟨b1,yb1,k1,f1⟩,b2,-⟩:=hL
 go_wp2
 refine bodyPost_ret (by simp[results,Tryz.results49,go_sem,k1,f1,yb1]) rfl ⟨rfl,by exact belowAny⟩
theorem r14behind_w (n:Nat) (z:Int) (L:List Int) (r:RunT) (M:List RunT) (rb ro:Nat) (K1 A1 R1 m1 d1 E1:Int) (p1 q1:Option Addr) (n1 c1 l1 v1:Nat) (K2 A2 R2 m2 d2 E2:Int) (q2:Option Addr) (n2 c2 l2 v2:Nat) (w:World) (hL:L.length=n+1) (hn:n<=300) (hz:L[n]? =some z) (hM:RunsP w rb ro M) (hr:M[0]? =some r) (g2:0<n2) (h1:∀W,Below w.heap.size w W->Calls Tryz.prog 86 #[.slice p1 n1 c1] W fun e w'=>∃p k,e= .returned (.slice p (n+1) k)/\IntsIn w' p L/\Below W.heap.size W w'):
  Cb 85 #[.agg #[.int .i64 K1,.slice p1 n1 c1,.int .i64 A1,.int .i64 R1,.int .i64 m1,.int .i64 d1,.slice q1 l1 v1,.int .i64 E1],.agg #[.int .i64 K2,.slice (some ⟨rb,ro,none⟩) n2 c2,.int .i64 A2,.int .i64 R2,.int .i64 m2,.int .i64 d2,.slice q2 l2 v2,.int .i64 E2]] w (.bool (decide (z<r.f))):=by
 have E:=Hd (show wrap64 (n:Int)=(n:Int) by rw[wrap64_eq];omega)
 have g0:¬((n:Int)<0):=by omega
 have g1:n<n+1:=by omega
 have g3:(n:Int)<(n:Int)+1:=by omega
 have H_h1:=Hd h1
 clear h1
 go_enter Tryz.func85,Tryz.ntmps85
 go_wp2_with fail
 refine(H_h1.out _ belowAny).mono ?_
 rintro e w1 ⟨p,k,rfl,hI,hb1⟩
 have z2:=hb1.size
 try simp at z2
 refine haveB w w1 (Bc w.heap.size #[.int .i64 K1,.slice p1 n1 c1,.int .i64 A1,.int .i64 R1,.int .i64 m1,.int .i64 d1,.slice q1 l1 v1,.int .i64 E1] 49<|Bc (w.heap.size+1) #[.int .i64 K2,.slice (some ⟨rb,ro,none⟩) n2 c2,.int .i64 A2,.int .i64 R2,.int .i64 m2,.int .i64 d2,.slice q2 l2 v2,.int .i64 E2] 49<|Bz) ?_
 rintro hW z3 ⟨⟨b1,yb1,k1,f1⟩,⟨b2,yb2,k2,f2⟩,-⟩
 obtain⟨pb,po,rfl,-⟩:=hI.at' n z hz
 have b3:IntsP w1 pb po L:=⟨hI⟩
 clear hI
 have b4:RunsP w1 rb ro M:=hM.below hW
 go_upto_region 2 with(fail)
 clear k1 f1 k2 f2
 refine wp_cutB w (Bc w.heap.size #[.int .i64 K1,.slice p1 n1 c1,.int .i64 A1,.int .i64 R1,.int .i64 m1,.int .i64 d1,.slice q1 l1 v1,.int .i64 E1] 49<|Bc (w.heap.size+1) #[.int .i64 K2,.slice (some ⟨rb,ro,none⟩) n2 c2,.int .i64 A2,.int .i64 R2,.int .i64 m2,.int .i64 d2,.slice q2 l2 v2,.int .i64 E2] 49<|Rc (fun W'=>IntsP W' pb po L)<|Rc (fun W'=>RunsP W' rb ro M)<|Bz) ?_ (hI:=by exact belowAny) (hR:=(Bc.mk (by exact blkAny2)<|Bc.mk (by exact blkAny2)<|Rc.mk (by first|exact b3|exact b3.below (by assumption)|exact b3.below belowAny)<|Rc.mk (by first|exact b4|exact b4.below (by assumption)|exact b4.below belowAny)<|trivial))
 clear b1 b2 b3 b4 hW
 rintro W4 hW z5 hL
 obtain⟨⟨b1,yb1,k1,f1⟩,⟨b2,yb2,k2,f2⟩,b3,b4,-⟩:=id hL
 clear k1 f1 k2 f2
 refine wp_regQ 13 21 hW hL ?_
 iterate 13 refine dE (fun W' hC=>aI (hC.2.2.2.1.cellAt hz) (aI ((hC.2.2.2.2.1.cellAt hr).1) (aI E.out (aI g0 (aI g1 (aI g3 (aI (Nat.not_le.2 g1) (aI g2 (Nat.not_le.2 g2))))))))) ?_
 clear hW hL b1 b2 b3 b4
 rintro W6 hW z7 hL
 simp only[ndR]
 intros
 simp only[ndS]
 refine wpList_nil ?_
 obtain⟨⟨b1,yb1,k1,f1⟩,⟨b2,yb2,k2,f2⟩,b3,b4,-⟩:=hL
 go_wp2
 refine bodyPost_ret (by simp[results,Tryz.results85,go_sem,k1,f1,k2,f2,yb1,yb2]) rfl ⟨rfl,by exact belowAny⟩
theorem c_times24 (s:SegT) (p q:Option Addr) (cap:Nat) (w:World) (h:SegIn w s p q) (hs:segB s=true):
  ∃n,(timesL s.runs).length=n+1/\n<=300/\(timesL s.runs)[n]? =some (lastT s.runs)/\∀W,Below w.heap.size w W->Calls Tryz.prog 86 #[.slice p s.runs.length cap] W fun e w'=>∃p k,e= .returned (.slice p (n+1) k)/\IntsIn w' p (timesL s.runs)/\Below W.heap.size W w':=by
 have hr:=segB_runs hs
 have h1:=length_times hr
 have h2:=cnt_pos hr
 refine⟨(timesL s.runs).length-1,by omega,by omega,?_,fun W hW=> ?_⟩
 ·have:=at_times hr (k:=(timesL s.runs).length-1) (by omega)
  rw[this]
  unfold lastT
  rw[show (((timesL s.runs).length-1:Nat):Int)=cnt s.runs-1 by omega]
 ·refine(c_refTimes (cap:=cap) hr h.runs h.fewR W hW).mono ?_
  rintro e w' ⟨v,rfl,hv,hB⟩
  obtain⟨p1,k1,rfl,-⟩:=hv.form
  rw[show (timesL s.runs).length-1+1=(timesL s.runs).length by omega]
  exact⟨p1,k1,rfl,hv.ints,hB⟩
theorem c_r24last (s:SegT) (p q:Option Addr) (cap vc:Nat) (w:World) (h:SegIn w s p q) (hs:segB s=true):
  Cb 49 #[.agg (segA s p q cap vc)] w (.int .i64 (lastT s.runs)):=by
 obtain⟨n,a1,a2,a3,a4⟩:=c_times24 s p q cap w h hs
 exact r24last_w n _ _ _ _ _ _ _ _ _ _ _ _ _ _ w a1 a2 a3 a4
theorem c_r14Behind (s x:SegT) (p q p' q':Option Addr) (cap vc cap' vc':Nat) (w:World) (h:SegIn w s p q) (hs:segB s=true) (h':SegIn w x p' q') (hx:segB x=true):
  Cb 85 #[.agg (segA s p q cap vc),.agg (segA x p' q' cap' vc')] w (.bool (decide (lastT s.runs<firstT x.runs))):=by
 obtain⟨n,a1,a2,a3,a4⟩:=c_times24 s p q cap w h hs
 have hr:=segB_runs hx
 cases hl:x.runs with
 |nil=>have:=hr.some';rw[hl] at this;simp at this
 |cons r l=>
  have e:firstT (r::l)=r.f:=firstT_is (by rw[<-hl];exact hr)
  have h0:=h'.runs
  rw[hl] at h0
  obtain⟨rb,ro,rfl,-⟩:=h0.at' 0 r rfl
  rw[e]
  have:=r14behind_w n _ _ r (r::l) rb ro s.K s.A s.R s.n s.d s.E p q s.runs.length cap s.raw.length vc x.K x.A x.R x.n x.d x.E q' (r::l).length cap' x.raw.length vc' w a1 a2 a3 ⟨h0⟩ rfl (by simp) a4
  unfold segA
  rw[hl]
  exact this

def plS1 (i:Nat) (S:Int):Int:=if 1<=i then S else 0
def plS2 (i:Nat) (S:Int):Int:=if 2<=i then S else 0
def plusV (f:Bool) (S1 S2:Int):Array Value:=if f=true then #[.int .i64 S1,.int .i64 S2] else #[.int .i64 0,.int .i64 0]
def plusE (f:Bool):Int:=if f=true then 0 else 5
def spA (l:List (Int×Int)):Int:=lsum (l.map (·.1))
def spB (l:List (Int×Int)):Int:=lsum (l.map (·.2))

section
variable {P:Program} {ops:Array Oper} {C:World->Prop} {X:List (Nat×Nat)} {a0:Act} {Fin:List (Option Tmp×Spec)->Prop} {i:Nat} {o:Oper} {rest:List Oper} {acc:List (Option Tmp×Spec)}
end
def SPV (l:List (Int×Int)):Spec:=fun v w=>∃k,v= .slice (some ⟨k,0,none⟩) 2 2/\PtsIn w (some ⟨k,0,none⟩) l
theorem SPV.closed (l:List (Int×Int)):Closed [] (SPV l):=fun _ _ _ hr ⟨k,e,h⟩=>⟨k,e,h.rex hr rfl⟩
def pcA (vs:List Int) (far:Int):Array Value:= #[.int .i64 vs.length,.int .i64 (minL vs),.int .i64 (maxL vs),.int .i64 (hiW (lsum vs)),.int .u64 (loW (lsum vs)),.int .i64 far]
end Go.Proofs.YtpdhdjlhicceoaaGreatDoor
namespace Go.Proofs.YtpdhdjlhicceoaaGreatDoor
open Go.RowKit Go.Shelf
attribute [local go_sem] Oper.semAt_some
def SeqWr {α:Type} (F:Fence) (n:Nat) (P:Program) (g:Nat) (lb:Array Value) (encs:α->Array Value) (Kp:World->World->Prop) (xs:List α) (Ba:Nat) (w:World):Prop:=
 ∀(l:Nat) (J:List α->World->Prop) (W:World),Below w.heap.size w W->AbidesFrom W.heap.size J->(∀pre W1 v,J pre W1->J pre (W1.setCell ⟨Ba,0,none⟩ v))->
  (∀pre x W1,J pre W1->pre++ [x]<+:xs->YieldAt F (n-1) P l (encs x) W1 fun e W'=>e= .returned (.bool true)/\J (pre++ [x]) W'/\Kp W1 W')->
  J [] W->CallsIn F n P g (#[.func (.yield l) #[] #[]]++lb) W fun e W'=>(∃v,e= .returned v)/\J xs W'
def goesOn {α:Type} (B:Nat) (Kp:World->World->Prop) (I:List α->World->Prop) (pre:List α) (W:World):Exit->Act->World->Prop
 | .normal,_,W'=>KeepsFrom B W W'/\Kp W W'/\I pre W'
 |_,_,_=>False
end Go.Proofs.YtpdhdjlhicceoaaGreatDoor
namespace Go.Proofs.YtpdhdjlhicceoaaGreatDoor
open Go.RowKit
attribute [local go_sem] Oper.semAt_some
section
variable {P:Program} {ops:Array Oper} {C:World->Prop} {X:List (Nat×Nat)} {a0:Act} {n nn:Nat} {Q:Exit->Act->World->Prop}
def allFirstB (ops:Array Oper) (n:Nat):Bool:=(List.range n).all fun i=>(List.range ops.size).all fun t=>decide (t<n)||ancB ops 8 t i
end
end Go.Proofs.YtpdhdjlhicceoaaGreatDoor
namespace Go.Proofs.YtpdhdjlhicceoaaGreatDoor
open Go.RowKit Go.Shelf
attribute [local go_sem] Oper.semAt_some

def PcOk (x:List Int×Int):Prop:=x.1≠ []/\x.1.length<=256/\0<=x.2/\x.2<=1099511627776/\∀v,v∈x.1-> -2305844108725321728<=v/\v<=2305844108725321728
def WholeOut (s:SerT) (a b:Int) (e:Ending):Prop:=e= .returned (.tuple #[.agg (shA ((pcsL s a b).flatMap pairs)),.int .i64 (if (pcsL s a b).flatMap pairs= [] then 9 else 0)])
end Go.Proofs.YtpdhdjlhicceoaaGreatDoor
namespace Go.Proofs.YtpdhdjlhicceoaaGreatDoor
open Go.RowKit



def TellOk (l:List (Int×Int)):Prop:=(∀x,x∈l-> -2305844108725321728<=x.1/\x.1<=2305844108725321728/\0<=x.2/\x.2<=1099511627776)/\l.length<=100000
def sumV (l:List (Int×Int)):Array Value:=if inI (lsum (loL l))&&inI (lsum (hiL l)) then #[.int .i64 (lsum (loL l)),.int .i64 (lsum (hiL l))] else #[.int .i64 0,.int .i64 0]
def sumE (l:List (Int×Int)) (e:Int):Int:=if e=0 then (if inI (lsum (loL l))&&inI (lsum (hiL l)) then 0 else 5) else e
def meanV (l:List (Int×Int)):Array Value:= #[.int .i64 l.length,.int .i64 (lsum (loL l)/l.length),.int .i64 (lsum (loL l)%l.length),.int .i64 (lsum (hiL l)/l.length),.int .i64 (lsum (hiL l)%l.length)]
def minA (l:List (Int×Int)):Array Value:= #[.int .i64 (minL (loL l)),.int .i64 (minL (hiL l))]
def maxA (l:List (Int×Int)):Array Value:= #[.int .i64 (maxL (loL l)),.int .i64 (maxL (hiL l))]
def IntsF (w:World) (p:Option Addr) (l:List Int):Prop:=IntsIn w p l
theorem IntsF.rex {L:List Nat} {w w':World} {p:Option Addr} {l:List Int} (h:IntsF w p l) (hr:Rex L w w') (hL:L= []):IntsF w' p l:=by subst hL;exact IntsIn.below h hr.below
def enRel (w:World) (p:Option Addr) (l:List Int) (cap:Nat) (x0:Int) (a':Act) (W:World):Prop:=
 Below w.heap.size w W/\∃i:Nat,(∃u:Nat->Value,a'= {tmps:= #[.slice p l.length cap,u 1,u 2,u 3,.int .i64 (minL (x0::l.take i)),.int .i64 (maxL (x0::l.take i)),.int .i64 (i:Int),u 7,u 8,u 9,u 10,u 11,u 12,u 13,u 14,u 15,u 16,u 17,u 18,u 19,u 20,u 21,u 22,u 23,u 24,u 25,u 26,u 27,u 28,u 29,u 30,u 31,u 32,u 33,u 34,u 35,u 36,u 37,u 38,u 39,u 40],defers:= []})/\i<=l.length
def toRel (w:World) (gs:Nat) (p:Option Addr) (cap:Nat) (l:List Int) (a':Act) (W:World):Prop:=
 Below w.heap.size w W/\∃(i:Nat) (S:Int) (ps:Option Addr) (ls cs:Nat),(∃u:Nat->Value,a'= {tmps:= #[.slice p l.length cap,u 1,.pointer (some ⟨w.heap.size,0,none⟩),.pointer (some ⟨gs,0,none⟩),.int .i64 (i:Int),u 5,u 6,u 7,u 8,u 9,u 10,u 11,u 12,u 13,u 14,u 15,u 16,u 17,u 18,u 19],defers:= []})/\S=lsum (l.take i)/\i<=l.length/\Blk W w.heap.size #[.bool false,.slice none 0 0] 206/\Blk W gs #[.bool (decide (S<0)),.slice ps ls cs] 206/\Bits W (.slice ps ls cs) S.natAbs
section
variable {P:Program} {w:World}
theorem run_append_own2 (base:Nat) (t ty e:TypeId) (i:TypeInfo) (z:Value) (size bytes:Nat) (ht:P.underlying t=some (.slice e)) (hi:P.info? e=some i) (hz:i.zero=some z)
  (hsize:i.size=size) (hby:i.bytes=bytes) (hzs:z.cells.size=size) (hsz:0<size)
  (v:Value) (n:Nat) (xs:List Value) (hown:w.ownsRow base e size v n xs)
  (a:Addr) (m c:Nat) (news:List Value) (hl:news.length=m*size) (hnews:∀j u,news[j]? =some u->w.cell? (a.add j)=some u) (h1:∀u∈news,u.oneCell'=true)
  (h63:n+m<=maxLen) (hbytes:(n+m)*bytes<=140737488355328) (hbase:base<=w.heap.size):
  ∃v' w',(Builtin.append_ #[t,t] ty #[v,.slice (some a) m c]).run P w= .ok v' w'/\w'.ownsRow base e size v' (n+m) (xs++news)/\w.grownBy w' v.ownBlock/\
   (v'= .slice none 0 0↔v= .slice none 0 0/\m=0)/\(v'.ownBlock=v.ownBlock∨v'.ownBlock=some w.heap.size):=by
 obtain⟨v',w',hr,h2,h3,h4⟩:=run_append_own (P:=P) w base t ty e i z size bytes ht hi hz hsize hby hzs hsz v n xs hown a m c news hl hnews h1 h63 hbytes hbase
 refine⟨v',w',hr,h2,h3,h4,?_⟩
 subst hsize
 subst hby
 have hsmall:n+m<=9223372036854775807:=by simp only[maxLen] at h63;omega
 rcases hown.2 with⟨rfl,rfl⟩|⟨g,cap,cur,rfl,hbg,hg,hnc,hcm,hcs,htake⟩
 ·by_cases hm:m=0
  ·left
   rw[h4.2 ⟨rfl,hm⟩]
  ·have hr2:=run_append_nil (P:=P) w t ty e i z ht hi hz a m c news hl hnews (by omega) (by omega) (by have hb:=hbytes;simp only[Nat.zero_add] at hb;omega)
   rw[hr2] at hr
   injection hr with hr _
   subst hr
   right;rfl
 ·by_cases hroom:n+m<=cap
  ·have hfit:n*i.size+news.length<=cur.size:=by rw[hl,hcs,<-Nat.add_mul];exact Nat.mul_le_mul_right _ hroom
   have hr2:=run_append_room (P:=P) w t ty e i ht hi g n cap cur hg a m c news hl hnews h1 hroom hfit
   rw[hr2] at hr
   injection hr with hr _
   subst hr
   left;rfl
  ·have holds:∀j u,xs[j]? =some u->w.cell? ((⟨g,0,none⟩:Addr).add j)=some u:=hown.cells (g:=g) rfl
   have hr2:=run_append_grow (P:=P) w t ty e i z ht hi hz ⟨g,0,none⟩ n cap xs hown.1 holds a m c news hl hnews (by omega) (by omega) (growslice_fits (by omega) hbytes)
   rw[hr2] at hr
   injection hr with hr _
   subst hr
   right;rfl
theorem wpList_append_own2 {ops:Array Oper} {rest:List Oper} {o:Oper} {a:Act} {Q:Exit->Act->World->Prop} (hgd:o.guard=none) (s x:Operand) (t:TypeId)
  (ho:o.op= .call {callee:= .builtin .append,args:= #[s,x],argTypes:= #[t,t]})
  (base:Nat) (e:TypeId) (i:TypeInfo) (z:Value) (size bytes:Nat) (ht:P.underlying t=some (.slice e)) (hi:P.info? e=some i) (hz:i.zero=some z)
  (hsize:i.size=size) (hby:i.bytes=bytes) (hzs:z.cells.size=size) (hsz:0<size)
  (v:Value) (n:Nat) (xs:List Value) (hs:a.eval s=v) (hown:w.ownsRow base e size v n xs)
  (ad:Addr) (m c:Nat) (news:List Value) (hx:a.eval x= .slice (some ad) m c) (hl:news.length=m*size) (hnews:∀j u,news[j]? =some u->w.cell? (ad.add j)=some u) (h1:∀u∈news,u.oneCell'=true)
  (h63:n+m<=maxLen) (hbytes:(n+m)*bytes<=140737488355328) (hbase:base<=w.heap.size)
  (h:∀v' w',w'.ownsRow base e size v' (n+m) (xs++news)->w.grownBy w' v.ownBlock->(v'.ownBlock=v.ownBlock∨v'.ownBlock=some w.heap.size)->wpList P ops Q rest (a.put o.dst v') w'):wpList P ops Q (o::rest) a w:=by
 refine wpList_plain hgd fun K hK=> ?_
 obtain⟨v',w',hr,h2,h3,_,h4⟩:=run_append_own2 (P:=P) (w:=w) base t o.type e i z size bytes ht hi hz hsize hby hzs hsz v n xs hown ad m c news hl hnews h1 h63 hbytes hbase
 unfold Oper.wp
 simp[execOp,ho,resolve,invoke,builtin,hs,hx,hr,Result.andThen]
 exact hK _ _ (h v' w' h2 h3 h4)
end
def OneV (B:Nat) (d:Int):Spec:=fun v w=>∃g,v= .slice (some ⟨g,0,none⟩) 1 1/\B<=g/\Blk w g #[.int .i64 d] 2
theorem OneV.closed (B:Nat) (d:Int):Closed [] (OneV B d):=fun _ _ _ hr ⟨g,e1,h1,h⟩=>⟨g,e1,h1,h.rex hr (by simp)⟩
def Apart2 (v1 v2:Value):Prop:=∀g,v1.ownBlock=some g->v2.ownBlock=some g->False
theorem Apart2.symm {v1 v2:Value} (h:Apart2 v1 v2):Apart2 v2 v1:=fun g a b=>h g b a
theorem grown_below {B:Nat} {w0 w w':World} {r:Option Nat} (h:Below B w0 w) (hB:B<=w.heap.size) (hg:w.grownBy w' r) (hr:∀g,r=some g->B<=g):Below B w0 w':=
 h.trans ⟨hg.os,hg.tape,hg.output,hg.size,fun k hk=>hg.block k (by omega) fun e=>by have:=hr k e.symm;omega⟩
def loB (x:RunT):Int:=x.s-x.c
def hiB (x:RunT):Int:=x.s+x.c
def boRel (w:World) (p:Option Addr) (cap:Nat) (l:List RunT) (a':Act) (W:World):Prop:=
 Below w.heap.size w W/\∃(i:Nat) (v1 v2:Value),(∃u:Nat->Value,a'= {tmps:= #[.slice p l.length cap,u 1,.slice none 0 0,.slice none 0 0,v1,v2,.int .i64 (i:Int),u 7,u 8,u 9,u 10,u 11,u 12,u 13,u 14,u 15,u 16,u 17,u 18,u 19,u 20,u 21,u 22,u 23,u 24,u 25,u 26,u 27,u 28,u 29,u 30,u 31,u 32,u 33,u 34,u 35,u 36,u 37,u 38,u 39,u 40,u 41,u 42],defers:= []})/\i<=l.length/\
  OwnR W w.heap.size 2 1 v1 i (((l.take i).map loB).map (Value.int .i64))/\OwnR W w.heap.size 2 1 v2 i (((l.take i).map hiB).map (Value.int .i64))/\Apart2 v1 v2
theorem Blk.grown0 {W w1:World} {B g:Nat} {cs:Array Value} {t e:TypeId} {s n:Nat} {v:Value} {xs:List Value} (h:Blk W g cs t) (hown:W.ownsRow B e s v n xs) (ht:t≠e) (hgr:W.grownBy w1 v.ownBlock):Blk w1 g cs t:=by
 have hlt:=h.lt
 have h':W.heap[g]? =some (.cells cs t (0,0)):=h
 refine(hgr.block g (by omega) fun e1=> ?_).trans h'
 rcases hown.2 with⟨rfl,_⟩|⟨g',cap,cur,rfl,_,hb,_⟩
 ·simp[Value.ownBlock] at e1
 ·have:g=g':=by simpa [Value.ownBlock] using e1
  subst this
  unfold Blk at h
  rw[h] at hb
  injection hb with hb
  injection hb with _ h2 _
  exact ht h2
theorem SerIn.rex {L:List Nat} {w w':World} {s:SerT} {ps po:Option Addr} (h:SerIn w s ps po) (hr:Rex L w w') (hL:L= []):SerIn w' s ps po:=by subst hL;exact h.below hr.below
theorem SerIn.drew {w:World} {s:SerT} {ps po:Option Addr} (h:SerIn w s ps po):SerIn w.drew s ps po:=
 ⟨⟨fun i r hr=>by
  obtain⟨b,o,p',q',cap,vc,e,h1,h2,h3⟩:=h.segs.at' i r hr
  exact⟨b,o,p',q',cap,vc,e,h1,⟨⟨h2.runs.at'⟩,⟨h2.raw.at'⟩,h2.fewR,h2.fewV⟩,h3⟩⟩,h.opn.drew,h.fewS,h.fewO⟩
theorem own_cast {w:World} {B:Nat} {e:TypeId} {s n n':Nat} {v:Value} {xs xs':List Value} (h:w.ownsRow B e s v n xs) (e1:n=n') (e2:xs=xs'):w.ownsRow B e s v n' xs':=by subst e1;subst e2;exact h
def bkT (x:Int×Int×Int):RunT:=⟨x.1,x.2.1,x.2.2⟩
theorem ints_flat9 {w:World} {a:Addr} {l:List Int} (h:IntsIn w (some a) l) (j:Nat) (u:Value) (hu:(l.map (Value.int .i64))[j]? =some u):w.cell? (a.add j)=some u:=by
 rw[List.getElem?_map] at hu
 cases hx:l[j]? with
 |none=>rw[hx] at hu;cases hu
 |some x=>
  rw[hx] at hu
  obtain⟨b,o,e,c0⟩:=h.at' j x hx
  injection e with e
  subst e
  rw[show (⟨b,o,none⟩:Addr).add j=⟨b,o+j,none⟩ by unfold Addr.add;split<;>simp_all,c0,<-hu]
  rfl
theorem ints_one9 {l:List Int} (u:Value) (hu:u∈l.map (Value.int .i64)):u.oneCell'=true:=by
 obtain⟨x,_,rfl⟩:=List.mem_map.1 hu
 rfl
def tm24aRel (w:World) (s:SerT) (ps:Option Addr) (cs:Nat) (po:Option Addr) (co:Nat) (a':Act) (W:World):Prop:=
 Below w.heap.size w W/\Blk W w.heap.size #[.string s.name,.int .i64 s.eps,.int .i64 s.floor,.int .i64 s.last,.int .i64 s.scale,.slice ps s.segs.length cs,.slice po s.opn.length co] 26/\∃(k:Nat) (v:Value),(∃u:Nat->Value,a'= {tmps:= #[.agg #[.string s.name,.int .i64 s.eps,.int .i64 s.floor,.int .i64 s.last,.int .i64 s.scale,.slice ps s.segs.length cs,.slice po s.opn.length co],.pointer (some ⟨w.heap.size,0,none⟩),u 2,v,u 4,u 5,u 6,u 7,u 8,.slice ps s.segs.length cs,.int .i64 (s.segs.length:Int),.int .i64 (k:Int),u 12,u 13,u 14,u 15,u 16,u 17,u 18,u 19,u 20,u 21,u 22,u 23,u 24,u 25,u 26,u 27,u 28,u 29,u 30,u 31,u 32,u 33,u 34],defers:= []})/\OwnR W w.heap.size 2 1 v ((s.segs.take k).flatMap fun x:SegT=>timesL x.runs).length (((s.segs.take k).flatMap fun x:SegT=>timesL x.runs).map (Value.int .i64))/\k<=s.segs.length
def tm24bRel (w:World) (s:SerT) (ps:Option Addr) (cs:Nat) (po:Option Addr) (co:Nat) (a':Act) (W:World):Prop:=
 Below w.heap.size w W/\Blk W w.heap.size #[.string s.name,.int .i64 s.eps,.int .i64 s.floor,.int .i64 s.last,.int .i64 s.scale,.slice ps s.segs.length cs,.slice po s.opn.length co] 26/\∃(k:Nat) (v:Value),(∃u:Nat->Value,a'= {tmps:= #[.agg #[.string s.name,.int .i64 s.eps,.int .i64 s.floor,.int .i64 s.last,.int .i64 s.scale,.slice ps s.segs.length cs,.slice po s.opn.length co],.pointer (some ⟨w.heap.size,0,none⟩),u 2,v,u 4,u 5,u 6,u 7,u 8,u 9,u 10,u 11,u 12,u 13,u 14,u 15,u 16,u 17,u 18,u 19,u 20,u 21,.slice po s.opn.length co,.int .i64 (s.opn.length:Int),.int .i64 (k:Int),u 25,u 26,u 27,u 28,u 29,u 30,u 31,u 32,u 33,u 34],defers:= []})/\OwnR W w.heap.size 2 1 v ((s.segs.flatMap fun x:SegT=>timesL x.runs)++(s.opn.take k).map (·.1)).length (((s.segs.flatMap fun x:SegT=>timesL x.runs)++(s.opn.take k).map (·.1)).map (Value.int .i64))/\k<=s.opn.length
theorem flat_take24 {s:SerT} (hv:∀x,x∈s.segs->segB x=true) (k:Nat) (hk:k<=s.segs.length):((s.segs.take k).flatMap fun x:SegT=>timesL x.runs).length<=256*k:=by
 have h1:=flat_few (fun x:SegT=>timesL x.runs) 256 (s.segs.take k) fun x hx=>by
  have:=segB_runs (hv x (List.mem_of_mem_take hx))
  have h2:=length_times this
  have:=(cnt_pos this).2
  try simp only
  omega
 rw[List.length_take] at h1
 omega
theorem c_r24Times (s:SerT) (ps:Option Addr) (cs:Nat) (po:Option Addr) (co:Nat) (w:World) (hin:SerIn w s ps po) (hv:∀x,x∈s.segs->segB x=true):
  Calls Tryz.prog 51 #[.agg (serA s ps cs po co)] w fun e w'=>∃p k,e= .returned (.slice p (timesS s).length k)/\IntsIn w' p (timesS s)/\Below w.heap.size w w':=by
 obtain⟨i0,hi,hz0,hz1,hz2⟩:=info_parts Tryz.infoI64
 have hfS:=hin.fewS
 have hfO:=hin.fewO
 unfold serA
 go_enter Tryz.func51,Tryz.ntmps51
 go_wp2
 refine wp_loop (tm24aRel w s ps cs po co) (fun a' _=>s.segs.length-(intAt (a'.tmps.getD 11 undef)).toNat) ?_ ?_
 ·unfold tm24aRel
  exact⟨belowAny,by exact blkAny2,0,_,frame_ex rfl,OwnR.nil _ _ _ _,by omega⟩
 rintro a' W ⟨hW0,b1,k,v,⟨u,rfl⟩,hown,hk⟩
 have hz:=hW0.size
 have zb1:=b1.lt
 have hl9:=flat_take24 hv k hk
 rcases Nat.lt_or_ge k s.segs.length with hlk|hge
 ·obtain⟨x,tr⟩:∃r,s.segs[k]? =some r:=⟨s.segs[k]'(by omega),List.getElem?_eq_getElem (by omega)⟩
  have hsx:=hv x (List.mem_of_getElem? tr)
  obtain⟨bs,os,p',q',cps,vc,rfl,hs,hvc,q0,q1,q2,q3,q4,q5,q6,q7⟩:=(hin.below hW0).segs.one tr
  obtain⟨n,hn,hn9,tz,c1⟩:=c_times24 x p' q' cps W hs hsx
  have hst:=Hd (flat_step (fun x:SegT=>timesL x.runs) tr)
  replace c1:=Hd c1
  replace hn:=Hd hn
  replace tz:=Hd tz
  have zc:=cell_lt q0
  try simp only at zc
  have k1:=b1.cell
  have f1:=b1.frozen
  go_wp2_with fail
  refine(c1.out _ belowAny).mono ?_
  rintro e w21 ⟨pT,kT,rfl,hI,hb21⟩
  have z22:=hb21.size
  try simp at z22
  clear k1 f1
  refine haveB W w21 (Bc w.heap.size #[.string s.name,.int .i64 s.eps,.int .i64 s.floor,.int .i64 s.last,.int .i64 s.scale,.slice (some ⟨bs,os,none⟩) s.segs.length cs,.slice po s.opn.length co] 26<|Bc W.heap.size #[.int .i64 x.K,.slice p' x.runs.length cps,.int .i64 x.A,.int .i64 x.R,.int .i64 x.n,.int .i64 x.d,.slice q' x.raw.length vc,.int .i64 x.E] 49<|Bz) ?_
  clear b1
  rintro hW z23 ⟨⟨b1,yb1,k1,f1⟩,⟨b2,yb2,k2,f2⟩,-⟩
  obtain⟨pb,pq,rfl,-⟩:=hI.at' _ _ tz.out
  have hV1:=hW0.trans (hW.mono hz)
  have hO:=hown.below hW
  clear hown hW c1
  have zz:=hV1.size
  have hlo:=fun g e=>hO.own.lt g e
  go_wp2_with (at_builtin;refine wpList_append_own2 rfl (.tmp 15) (.tmp 18) 47 rfl w.heap.size 2 i0 (.int .i64 0) 1 8 (by kernel_rfl) hi hz0 hz1 hz2 rfl (by decide) _ _ _ rfl hO.own ⟨pb,pq,none⟩ (n+1) kT ((timesL x.runs).map (Value.int .i64)) rfl (by rw[List.length_map,hn.out,Nat.mul_one]) (fun j u hu=>ints_flat9 hI j u hu) (fun u hu=>ints_one9 u hu) (by simp only[maxLen];omega) (by omega) (by omega) ?_)
  intro v' w9 hown2 hgr _
  have hB:=Hd (grown_below hV1 (by omega) hgr (fun g e=>(hlo g e).1))
  have d1:=b1.grown0 hO.own (by decide) hgr
  replace hown2:=Hd hown2
  clear hgr hO hlo b1 b2 hI k1 f1 k2 f2
  go_wp2
  rw[show (k:Int)+1=((k+1:Nat):Int) by omega]
  refine⟨?_,by simp[intAt];omega⟩
  unfold tm24aRel
  exact⟨hB.out,d1,k+1,v',frame_ex rfl,⟨own_cast hown2.out (by rw[hst.out,List.length_append,hn.out];first|done|simp[List.length_flatMap]) (by rw[hst.out,List.map_append])⟩,by omega⟩
 ·obtain rfl:k=s.segs.length:=by omega
  rw[List.take_length] at hown hl9
  have k1:=b1.cell
  have f1:=b1.frozen
  go_wp2
  refine wp_loop (tm24bRel w s ps cs po co) (fun a' _=>s.opn.length-(intAt (a'.tmps.getD 24 undef)).toNat) ?_ ?_
  ·unfold tm24bRel
   exact⟨hW0,b1,0,_,frame_ex rfl,by simpa using hown,by omega⟩
  clear b1 k1 f1 hown hW0 hz zb1
  rintro a' W ⟨hW0,b1,k,v,⟨u,rfl⟩,hown,hk⟩
  have hz:=hW0.size
  have zb1:=b1.lt
  have hll:((s.segs.flatMap fun x:SegT=>timesL x.runs)++(s.opn.take k).map (·.1)).length<=25700:=by rw[List.length_append,List.length_map,List.length_take];omega
  rcases Nat.lt_or_ge k s.opn.length with hlk|hge
  ·obtain⟨⟨t,y⟩,tm⟩:∃r,s.opn[k]? =some r:=⟨s.opn[k]'(by omega),List.getElem?_eq_getElem (by omega)⟩
   obtain⟨bo,oo,rfl,q0,q1⟩:=(hin.below hW0).opn.at' k _ tm
   simp only at q0 q1
   have zc:=cell_lt q0
   try simp only at zc
   have hst:=Hd (show (s.opn.take (k+1)).map (·.1)=(s.opn.take k).map (·.1)++ [t] by rw[List.take_add_one,tm];simp)
   clear tm
   have k1:=b1.cell
   have f1:=b1.frozen
   go_upto_region 10 with(fail)
   clear k1 f1
   refine wp_cutB W (Bc w.heap.size #[.string s.name,.int .i64 s.eps,.int .i64 s.floor,.int .i64 s.last,.int .i64 s.scale,.slice ps s.segs.length cs,.slice (some ⟨bo,oo,none⟩) s.opn.length co] 26<|Bc W.heap.size #[.int .i64 t,.int .i64 y] 53<|Bz) ?_
   clear b1
   rintro W21 hW z22 ⟨⟨b1,yb1,k1,f1⟩,⟨b2,yb2,k2,f2⟩,-⟩
   have hV1:=hW0.trans (hW.mono hz)
   have hO:=hown.below hW
   clear hown hW
   have zz:=hV1.size
   go_wp2_with (at_builtin;refine wpList_append_own _ rfl (.tmp 28) (.tmp 31) 47 rfl w.heap.size 2 i0 (.int .i64 0) 1 8 (by kernel_rfl) hi hz0 hz1 hz2 rfl (by decide) _ _ _ rfl (hO.own.alloc _) ⟨W21.heap.size,0,none⟩ 1 1 [.int .i64 t] rfl rfl (cell_one_new _ _ _) (by simp[Value.oneCell']) (by simp only[maxLen];omega) (by omega) (by simp;omega) ?_)
   intro v' w9 hown2 hgr _
   have hB:=Hd (below_append hV1 zz hO.own hgr)
   have d1:=b1.grown hO.own (by decide) hgr
   replace hown2:=Hd hown2
   clear hgr hO b1 b2 k1 f1 k2 f2
   go_wp2
   rw[show (k:Int)+1=((k+1:Nat):Int) by omega]
   refine⟨?_,by simp[intAt];omega⟩
   unfold tm24bRel
   exact⟨hB.out,d1,k+1,v',frame_ex rfl,⟨own_cast hown2.out (by rw[hst.out];simp;omega) (by rw[hst.out];simp)⟩,by omega⟩
  ·obtain rfl:k=s.opn.length:=by omega
   rw[List.take_length] at hown
   have hown':OwnR W w.heap.size 2 1 v (timesS s).length ((timesS s).map (Value.int .i64)):=hown
   obtain⟨p,c,rfl,-⟩:=hown'.form
   have k1:=b1.cell
   have f1:=b1.frozen
   clear hown hll
   go_wp2
   refine bodyPost_ret (v:= .slice p (timesS s).length c) (by simp[results,Tryz.results51,go_sem]) rfl ⟨p,c,rfl,hown'.ints,hW0⟩
def kp24Rel (w:World) (s:SerT) (ps:Option Addr) (cs:Nat) (po:Option Addr) (co:Nat) (T:List Int) (p:Option Addr) (c:Nat) (a':Act) (W:World):Prop:=
 Below w.heap.size w W/\Blk W w.heap.size #[.string s.name,.int .i64 s.eps,.int .i64 s.floor,.int .i64 s.last,.int .i64 s.scale,.slice ps s.segs.length cs,.slice po s.opn.length co] 26/\IntsIn W p T/\∃k:Nat,(∃u:Nat->Value,a'= {tmps:= #[.agg #[.string s.name,.int .i64 s.eps,.int .i64 s.floor,.int .i64 s.last,.int .i64 s.scale,.slice ps s.segs.length cs,.slice po s.opn.length co],.pointer (some ⟨w.heap.size,0,none⟩),u 2,.int .i64 (keptL s.floor (T.take k):Int),u 4,u 5,u 6,.slice p T.length c,.int .i64 (T.length:Int),.int .i64 (k:Int),u 10,u 11,u 12,u 13,u 14,u 15,u 16,u 17,u 18,u 19,u 20],defers:= []})/\k<=T.length
theorem c_r24Kept (s:SerT) (ps:Option Addr) (cs:Nat) (po:Option Addr) (co:Nat) (w:World) (hin:SerIn w s ps po) (hv:∀x,x∈s.segs->segB x=true):
  Cb 33 #[.agg (serA s ps cs po co)] w (.int .i64 (keptN s)):=by
 have c1:=Hd (fun W (hW:Below w.heap.size w W)=>c_r24Times s ps cs po co W (hin.below hW) hv)
 have hT9:=times_few hin hv
 obtain⟨T,hT⟩:∃T,timesS s=T:=⟨_,rfl⟩
 have hR:=Hd (show keptN s=keptL s.floor T by rw[<-hT];rfl)
 rw[hT] at hT9 c1
 clear hT
 unfold serA at c1⊢
 go_enter Tryz.func33,Tryz.ntmps33
 go_wp2_with fail
 refine(c1.out _ belowAny).mono ?_
 rintro e w1 ⟨p,c,rfl,hI,hb1⟩
 have z2:=hb1.size
 try simp at z2
 refine haveB w w1 (Bc w.heap.size #[.string s.name,.int .i64 s.eps,.int .i64 s.floor,.int .i64 s.last,.int .i64 s.scale,.slice ps s.segs.length cs,.slice po s.opn.length co] 26<|Bz) ?_
 rintro hW z3 ⟨⟨b1,yb1,k1,f1⟩,-⟩
 clear c1
 go_wp2
 refine wp_loop (kp24Rel w s ps cs po co T p c) (fun a' _=>T.length-(intAt (a'.tmps.getD 9 undef)).toNat) ?_ ?_
 ·unfold kp24Rel
  exact⟨hW,b1,hI,0,frame_ex rfl,Nat.zero_le _⟩
 rintro a' W ⟨hW0,b1,hI,k,⟨u,rfl⟩,hk⟩
 have hz:=hW0.size
 have zb1:=b1.lt
 have hq:=keptL_le s.floor (T.take k)
 rw[List.length_take] at hq
 rcases Nat.lt_or_ge k T.length with hlk|hge
 ·obtain⟨t,tr⟩:∃r,T[k]? =some r:=⟨T[k]'(by omega),List.getElem?_eq_getElem (by omega)⟩
  obtain⟨bo,oo,rfl,q0⟩:=hI.at' k _ tr
  have e1:T.take (k+1)=T.take k++ [t]:=by rw[List.take_add_one,tr];rfl
  by_cases hf:s.floor<=t
  ·have hst:=Hd (show keptL s.floor (T.take (k+1))=keptL s.floor (T.take k)+1 by rw[e1,keptL_in _ hf])
   clear tr e1
   have k1:=b1.cell
   have f1:=b1.frozen
   go_wp2
   rw[show (k:Int)+1=((k+1:Nat):Int) by omega]
   refine⟨?_,by simp[intAt];omega⟩
   unfold kp24Rel
   exact⟨hW0,b1,hI,k+1,by rw[hst.out];exact frame_ex rfl,by omega⟩
  ·have hst:=Hd (show keptL s.floor (T.take (k+1))=keptL s.floor (T.take k) by rw[e1,keptL_out _ hf])
   clear tr e1
   have k1:=b1.cell
   have f1:=b1.frozen
   go_wp2
   rw[show (k:Int)+1=((k+1:Nat):Int) by omega]
   refine⟨?_,by simp[intAt];omega⟩
   unfold kp24Rel
   exact⟨hW0,b1,hI,k+1,by rw[hst.out];exact frame_ex rfl,by omega⟩
 ·obtain rfl:k=T.length:=by omega
  rw[List.take_length] at hq
  have k1:=b1.cell
  have f1:=b1.frozen
  go_wp2
  refine bodyPost_ret (v:= .int .i64 (keptL s.floor T:Int)) (by simp[results,Tryz.results33,go_sem]) rfl ⟨by rw[hR.out],hW0⟩
end Go.Proofs.YtpdhdjlhicceoaaGreatDoor
