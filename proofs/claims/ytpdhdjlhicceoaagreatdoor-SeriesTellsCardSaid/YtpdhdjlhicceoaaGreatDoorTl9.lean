/- Parts of the proof that follows. No condition. -/
import Derived.Test.YtpdhdjlhicceoaaGreatDoorTl8
set_option maxRecDepth 100000
set_option maxHeartbeats 8000000
set_option linter.unusedSimpArgs false
set_option linter.unusedVariables false
namespace Go.Proofs.YtpdhdjlhicceoaaGreatDoor
open Go.RowKit
def plusRel (w:World) (p q:Option Addr) (a b:List Int) (ca cb:Nat) (a':Act) (W:World):Prop:=
 Below w.heap.size w W/\∃(l:List Int) (c:Int) (v:Value),(∃u:Nat->Value,a'= {tmps:= #[.slice p a.length ca,.slice q b.length cb,u 2,u 3,u 4,v,.int .i64 c,.int .i64 (l.length:Int),u 8,u 9,u 10,u 11,u 12,u 13,u 14,u 15,u 16,u 17,u 18,u 19,u 20,u 21,u 22,u 23,u 24,u 25,u 26,u 27,u 28,u 29,u 30,u 31,u 32,u 33,u 34,u 35,u 36,u 37,u 38,u 39,u 40,u 41,u 42,u 43,u 44,u 45,u 46,u 47,u 48,u 49,u 50,u 51,u 52,u 53],defers:= []})/\
  W.ownsRow w.heap.size 3 1 v l.length (l.map (Value.int .i64))/\Dig l/\(0<=c/\c<=1)/\valD l+2^l.length*c.toNat=valD (a.take l.length)+valD (b.take l.length)/\
  ((l.length:Int)+c<=a.length+1∨(l.length:Int)+c<=b.length+1)/\(l.length=0∨l.length<=a.length∨l.length<=b.length∨2^(l.length-1)<=valD l)
theorem plus_w (p q:Option Addr) (a b:List Int) (ca cb:Nat) (w:World) (ha:DigsIn w p a) (hb:DigsIn w q b) (hda:Dig a) (hdb:Dig b) (hca:Canon a) (hcb:Canon b) (hla:a.length<=950) (hlb:b.length<=950):
  Calls Tryz.prog 239 #[.slice p a.length ca,.slice q b.length cb] w fun e w'=>∃v,e= .returned v/\Bits w' v (valD a+valD b)/\Below w.heap.size w w':=by
 obtain⟨i0,hi,hz0,hz1,hz2⟩:=info_parts Tryz.infoI
 go_enter Tryz.func239,Tryz.ntmps239
 go_wp2
 refine wp_loop (plusRel w p q a b ca cb) (fun a' _=>2000-(intAt (a'.tmps.getD 7 undef)).toNat) ?_ ?_
 ·unfold plusRel
  exact⟨Below.refl _ _,[],0,_,frame_ex rfl,World.ownsRow_nil _ _ _ _,Dig.nil,by omega,by simp[valD],by simp;omega,.inl rfl⟩
 ·rintro a' W ⟨hW,l,c,v,⟨u,rfl⟩,hown,hd,hc,hv,hM,hcn⟩
  have hz:=hW.size
  replace hv:=Hd hv
  replace hcn:=Hd hcn
  have hl9:l.length<=951:=by omega
  by_cases hia:l.length<a.length
  ·by_cases hib:l.length<b.length
   ·
    obtain⟨x,hx⟩:∃x,a[l.length]? =some x:=⟨a[l.length],List.getElem?_eq_getElem hia⟩
    obtain⟨ga,oa,rfl,qa⟩:=(ha.below hW).at' _ x hx
    have bx:0<=x/\x<=1:=by have:=hda.at hx;omega
    have ta:=valD_take hx
    obtain⟨y,hy⟩:∃y,b[l.length]? =some y:=⟨b[l.length],List.getElem?_eq_getElem hib⟩
    obtain⟨gb,ob,rfl,qb⟩:=(hb.below hW).at' _ y hy
    have by':0<=y/\y<=1:=by have:=hdb.at hy;omega
    have tb:=valD_take hy
    replace ta:=Hd ta
    replace tb:=Hd tb
    clear hx
    clear hy
    go_wp2_with (at_builtin;refine wpList_append_own _ rfl (.tmp 46) (.tmp 49) 204 rfl w.heap.size 3 i0 (.int .i64 0) 1 8 (by kernel_rfl) hi hz0 hz1 hz2 rfl (by decide) _ _ _ rfl (hown.alloc _) ⟨W.heap.size,0,none⟩ 1 1 [.int .i64 ((c+x+y)%2)] rfl rfl (cell_one_new _ _ _) (by simp[Value.oneCell']) (by simp[maxLen];omega) (by omega) (by simp;omega) ?_)
    intro v' w1 hown' hgr _
    have hB:=Hd (below_append hW hz hown hgr)
    replace hown':=Hd hown'
    clear hgr hown
    go_wp2
    refine⟨?_,by simp[intAt];omega⟩
    have ee:((l.length:Int)+1)=(((l++ [(c+x+y)%2]).length:Nat):Int):=by simp
    rw[ee]
    unfold plusRel
    refine⟨hB.out,l++ [(c+x+y)%2],(c+x+y)/2,v',frame_ex rfl,by simpa using hown'.out,hd.snoc (by omega),by omega,?_,by simp;omega,?_⟩
    ·have:=hv.out
     have e1:((c+x+y)%2).toNat+2*((c+x+y)/2).toNat=c.toNat+x.toNat+y.toNat:=by omega
     rw[valD_snoc,List.length_append,List.length_singleton,Nat.pow_succ,Nat.mul_assoc,Nat.add_assoc,<-Nat.mul_add,e1,ta.out,tb.out]
     try simp only[Nat.mul_add]
     omega
    ·exact .inr (.inl (by simp;omega))
   ·
    obtain⟨x,hx⟩:∃x,a[l.length]? =some x:=⟨a[l.length],List.getElem?_eq_getElem hia⟩
    obtain⟨ga,oa,rfl,qa⟩:=(ha.below hW).at' _ x hx
    have bx:0<=x/\x<=1:=by have:=hda.at hx;omega
    have ta:=valD_take hx
    have tb:valD (b.take (l.length+1))=valD (b.take l.length):=by rw[valD_all b (by omega),valD_all b (by omega)]
    replace ta:=Hd ta
    replace tb:=Hd tb
    clear hx
    go_wp2_with (at_builtin;refine wpList_append_own _ rfl (.tmp 46) (.tmp 49) 204 rfl w.heap.size 3 i0 (.int .i64 0) 1 8 (by kernel_rfl) hi hz0 hz1 hz2 rfl (by decide) _ _ _ rfl (hown.alloc _) ⟨W.heap.size,0,none⟩ 1 1 [.int .i64 ((c+x)%2)] rfl rfl (cell_one_new _ _ _) (by simp[Value.oneCell']) (by simp[maxLen];omega) (by omega) (by simp;omega) ?_)
    intro v' w1 hown' hgr _
    have hB:=Hd (below_append hW hz hown hgr)
    replace hown':=Hd hown'
    clear hgr hown
    go_wp2
    refine⟨?_,by simp[intAt];omega⟩
    have ee:((l.length:Int)+1)=(((l++ [(c+x)%2]).length:Nat):Int):=by simp
    rw[ee]
    unfold plusRel
    refine⟨hB.out,l++ [(c+x)%2],(c+x)/2,v',frame_ex rfl,by simpa using hown'.out,hd.snoc (by omega),by omega,?_,by simp;omega,?_⟩
    ·have:=hv.out
     have e1:((c+x)%2).toNat+2*((c+x)/2).toNat=c.toNat+x.toNat:=by omega
     rw[valD_snoc,List.length_append,List.length_singleton,Nat.pow_succ,Nat.mul_assoc,Nat.add_assoc,<-Nat.mul_add,e1,ta.out,tb.out]
     try simp only[Nat.mul_add]
     omega
    ·exact .inr (.inl (by simp;omega))
  ·by_cases hib:l.length<b.length
   ·
    have ta:valD (a.take (l.length+1))=valD (a.take l.length):=by rw[valD_all a (by omega),valD_all a (by omega)]
    obtain⟨y,hy⟩:∃y,b[l.length]? =some y:=⟨b[l.length],List.getElem?_eq_getElem hib⟩
    obtain⟨gb,ob,rfl,qb⟩:=(hb.below hW).at' _ y hy
    have by':0<=y/\y<=1:=by have:=hdb.at hy;omega
    have tb:=valD_take hy
    replace ta:=Hd ta
    replace tb:=Hd tb
    clear hy
    go_wp2_with (at_builtin;refine wpList_append_own _ rfl (.tmp 46) (.tmp 49) 204 rfl w.heap.size 3 i0 (.int .i64 0) 1 8 (by kernel_rfl) hi hz0 hz1 hz2 rfl (by decide) _ _ _ rfl (hown.alloc _) ⟨W.heap.size,0,none⟩ 1 1 [.int .i64 ((c+y)%2)] rfl rfl (cell_one_new _ _ _) (by simp[Value.oneCell']) (by simp[maxLen];omega) (by omega) (by simp;omega) ?_)
    intro v' w1 hown' hgr _
    have hB:=Hd (below_append hW hz hown hgr)
    replace hown':=Hd hown'
    clear hgr hown
    go_wp2
    refine⟨?_,by simp[intAt];omega⟩
    have ee:((l.length:Int)+1)=(((l++ [(c+y)%2]).length:Nat):Int):=by simp
    rw[ee]
    unfold plusRel
    refine⟨hB.out,l++ [(c+y)%2],(c+y)/2,v',frame_ex rfl,by simpa using hown'.out,hd.snoc (by omega),by omega,?_,by simp;omega,?_⟩
    ·have:=hv.out
     have e1:((c+y)%2).toNat+2*((c+y)/2).toNat=c.toNat+y.toNat:=by omega
     rw[valD_snoc,List.length_append,List.length_singleton,Nat.pow_succ,Nat.mul_assoc,Nat.add_assoc,<-Nat.mul_add,e1,ta.out,tb.out]
     try simp only[Nat.mul_add]
     omega
    ·exact .inr (.inr (.inl (by simp;omega)))
   ·by_cases hc0:0<c
    ·
     have ta:valD (a.take (l.length+1))=valD (a.take l.length):=by rw[valD_all a (by omega),valD_all a (by omega)]
     have tb:valD (b.take (l.length+1))=valD (b.take l.length):=by rw[valD_all b (by omega),valD_all b (by omega)]
     replace ta:=Hd ta
     replace tb:=Hd tb
     go_wp2_with (at_builtin;refine wpList_append_own _ rfl (.tmp 46) (.tmp 49) 204 rfl w.heap.size 3 i0 (.int .i64 0) 1 8 (by kernel_rfl) hi hz0 hz1 hz2 rfl (by decide) _ _ _ rfl (hown.alloc _) ⟨W.heap.size,0,none⟩ 1 1 [.int .i64 ((c)%2)] rfl rfl (cell_one_new _ _ _) (by simp[Value.oneCell']) (by simp[maxLen];omega) (by omega) (by simp;omega) ?_)
     intro v' w1 hown' hgr _
     have hB:=Hd (below_append hW hz hown hgr)
     replace hown':=Hd hown'
     clear hgr hown
     go_wp2
     refine⟨?_,by simp[intAt];omega⟩
     have ee:((l.length:Int)+1)=(((l++ [(c)%2]).length:Nat):Int):=by simp
     rw[ee]
     unfold plusRel
     refine⟨hB.out,l++ [(c)%2],(c)/2,v',frame_ex rfl,by simpa using hown'.out,hd.snoc (by omega),by omega,?_,by simp;omega,?_⟩
     ·have:=hv.out
      have e1:((c)%2).toNat+2*((c)/2).toNat=c.toNat:=by omega
      rw[valD_snoc,List.length_append,List.length_singleton,Nat.pow_succ,Nat.mul_assoc,Nat.add_assoc,<-Nat.mul_add,e1,ta.out,tb.out]
      try simp only[Nat.mul_add]
      omega
     ·have hc1:c=1:=by omega
      subst hc1
      exact .inr (.inr (.inr (by rw[valD_snoc];simp)))
    ·have hc1:c=0:=by omega
     subst hc1
     have hsum:=Hd (show valD l=valD a+valD b by
      have:=hv.out
      rw[valD_all a (by omega),valD_all b (by omega)] at this
      simpa using this)
     have hcan:Canon l:=by
      by_cases h0:l= []
      ·exact .inl h0
      ·refine .inr ?_
       have hne:l.length≠0:=fun e=>h0 (List.length_eq_zero_iff.1 e)
       have hs:=hsum.out
       rcases hcn.out with h1|h1|h1|h1
       ·omega
       ·have e:l.length=a.length:=by omega
        have:=canon_pos hca (by rintro rfl;simp at e;exact h0 e)
        rw[<-e] at this
        omega
       ·have e:l.length=b.length:=by omega
        have:=canon_pos hcb (by rintro rfl;simp at e;exact h0 e)
        rw[<-e] at this
        omega
       ·exact h1
     have hbits:=Hd (bits_own hown rfl (by omega) hd hcan)
     clear hcn hv hcan hown
     go_wp2
     go_ret
     exact⟨v,rfl,hsum.out▸hbits.out,hW⟩
def mnsRel (w:World) (p q:Option Addr) (a b:List Int) (ca cb:Nat) (a':Act) (W:World):Prop:=
 Below w.heap.size w W/\∃(l:List Int) (c:Int) (v:Value),(∃u:Nat->Value,a'= {tmps:= #[.slice p a.length ca,.slice q b.length cb,u 2,u 3,u 4,v,.int .i64 c,.int .i64 (l.length:Int),u 8,u 9,u 10,u 11,u 12,u 13,u 14,u 15,u 16,u 17,u 18,u 19,u 20,u 21,u 22,u 23,u 24,u 25,u 26,u 27,u 28,u 29,u 30,u 31,u 32,u 33,u 34,u 35,u 36,u 37,u 38,u 39,u 40],defers:= []})/\
  W.ownsRow w.heap.size 3 1 v l.length (l.map (Value.int .i64))/\Dig l/\(0<=c/\c<=1)/\valD l+valD (b.take l.length)=valD (a.take l.length)+2^l.length*c.toNat/\l.length<=a.length
theorem minus_w (p q:Option Addr) (a b:List Int) (ca cb:Nat) (w:World) (ha:DigsIn w p a) (hb:DigsIn w q b) (hda:Dig a) (hdb:Dig b) (hla:a.length<=950) (hlb:b.length<=a.length) (hge:valD b<=valD a):
  Calls Tryz.prog 241 #[.slice p a.length ca,.slice q b.length cb] w fun e w'=>∃v,e= .returned v/\Bits w' v (valD a-valD b)/\Below w.heap.size w w':=by
 obtain⟨i0,hi,hz0,hz1,hz2⟩:=info_parts Tryz.infoI
 go_enter Tryz.func241,Tryz.ntmps241
 go_wp2
 refine wp_loop (mnsRel w p q a b ca cb) (fun a' _=>2000-(intAt (a'.tmps.getD 7 undef)).toNat) ?_ ?_
 ·unfold mnsRel
  exact⟨Below.refl _ _,[],0,_,frame_ex rfl,World.ownsRow_nil _ _ _ _,Dig.nil,by omega,by simp[valD],by simp⟩
 ·rintro a' W ⟨hW,l,c,v,⟨u,rfl⟩,hown,hd,hc,hv,hM⟩
  have hz:=hW.size
  replace hv:=Hd hv
  have hl9:l.length<=950:=by omega
  by_cases hia:l.length<a.length
  ·obtain⟨x,hx⟩:∃x,a[l.length]? =some x:=⟨a[l.length],List.getElem?_eq_getElem hia⟩
   obtain⟨ga,oa,rfl,qa⟩:=(ha.below hW).at' _ x hx
   have bx:0<=x/\x<=1:=by have:=hda.at hx;omega
   have ta:=Hd (valD_take hx)
   clear hx
   by_cases hib:l.length<b.length
   ·obtain⟨y,hy⟩:∃y,b[l.length]? =some y:=⟨b[l.length],List.getElem?_eq_getElem hib⟩
    obtain⟨gb,ob,rfl,qb⟩:=(hb.below hW).at' _ y hy
    have bq:0<=y/\y<=1:=by have:=hdb.at hy;omega
    have tb:=Hd (valD_take hy)
    clear hy
    by_cases hlow:x-c-y<0
    ·
     go_wp2_with (at_builtin;refine wpList_append_own _ rfl (.tmp 35) (.tmp 37) 204 rfl w.heap.size 3 i0 (.int .i64 0) 1 8 (by kernel_rfl) hi hz0 hz1 hz2 rfl (by decide) _ _ _ rfl (hown.alloc _) ⟨W.heap.size,0,none⟩ 1 1 [.int .i64 (x-c-y+2)] rfl rfl (cell_one_new _ _ _) (by simp[Value.oneCell']) (by simp[maxLen];omega) (by omega) (by simp;omega) ?_)
     intro v' w1 hown' hgr _
     have hB:=Hd (below_append hW hz hown hgr)
     replace hown':=Hd hown'
     clear hgr hown
     go_wp2
     refine⟨?_,by simp[intAt];omega⟩
     have ee:((l.length:Int)+1)=(((l++ [x-c-y+2]).length:Nat):Int):=by simp
     rw[ee]
     unfold mnsRel
     refine⟨hB.out,l++ [x-c-y+2],1,v',frame_ex rfl,by simpa using hown'.out,hd.snoc (by omega),by omega,?_,by simp;omega⟩
     have:=hv.out
     have e1:(x-c-y+2).toNat+c.toNat+y.toNat=x.toNat+2*(1:Int).toNat:=by omega
     obtain⟨Pw,hPw⟩:∃Pw,Pw=2^l.length:=⟨_,rfl⟩
     rw[valD_snoc,List.length_append,List.length_singleton,Nat.pow_succ,ta.out,tb.out]
     rw[<-hPw] at this⊢
     have e2:Pw*(x-c-y+2).toNat+Pw*c.toNat+Pw*y.toNat=Pw*x.toNat+Pw*(2*(1:Int).toNat):=by rw[<-Nat.mul_add,<-Nat.mul_add,e1,Nat.mul_add]
     have e3:Pw*2*(1:Int).toNat=Pw*(2*(1:Int).toNat):=Nat.mul_assoc _ _ _
     omega
    ·
     go_wp2_with (at_builtin;refine wpList_append_own _ rfl (.tmp 35) (.tmp 37) 204 rfl w.heap.size 3 i0 (.int .i64 0) 1 8 (by kernel_rfl) hi hz0 hz1 hz2 rfl (by decide) _ _ _ rfl (hown.alloc _) ⟨W.heap.size,0,none⟩ 1 1 [.int .i64 (x-c-y)] rfl rfl (cell_one_new _ _ _) (by simp[Value.oneCell']) (by simp[maxLen];omega) (by omega) (by simp;omega) ?_)
     intro v' w1 hown' hgr _
     have hB:=Hd (below_append hW hz hown hgr)
     replace hown':=Hd hown'
     clear hgr hown
     go_wp2
     refine⟨?_,by simp[intAt];omega⟩
     have ee:((l.length:Int)+1)=(((l++ [x-c-y]).length:Nat):Int):=by simp
     rw[ee]
     unfold mnsRel
     refine⟨hB.out,l++ [x-c-y],0,v',frame_ex rfl,by simpa using hown'.out,hd.snoc (by omega),by omega,?_,by simp;omega⟩
     have:=hv.out
     have e1:(x-c-y).toNat+c.toNat+y.toNat=x.toNat+2*(0:Int).toNat:=by omega
     obtain⟨Pw,hPw⟩:∃Pw,Pw=2^l.length:=⟨_,rfl⟩
     rw[valD_snoc,List.length_append,List.length_singleton,Nat.pow_succ,ta.out,tb.out]
     rw[<-hPw] at this⊢
     have e2:Pw*(x-c-y).toNat+Pw*c.toNat+Pw*y.toNat=Pw*x.toNat+Pw*(2*(0:Int).toNat):=by rw[<-Nat.mul_add,<-Nat.mul_add,e1,Nat.mul_add]
     have e3:Pw*2*(0:Int).toNat=Pw*(2*(0:Int).toNat):=Nat.mul_assoc _ _ _
     omega
   ·have tb:=Hd (show valD (b.take (l.length+1))=valD (b.take l.length) by rw[valD_all b (by omega),valD_all b (by omega)])
    by_cases hlow:x-c<0
    ·
     go_wp2_with (at_builtin;refine wpList_append_own _ rfl (.tmp 35) (.tmp 37) 204 rfl w.heap.size 3 i0 (.int .i64 0) 1 8 (by kernel_rfl) hi hz0 hz1 hz2 rfl (by decide) _ _ _ rfl (hown.alloc _) ⟨W.heap.size,0,none⟩ 1 1 [.int .i64 (x-c+2)] rfl rfl (cell_one_new _ _ _) (by simp[Value.oneCell']) (by simp[maxLen];omega) (by omega) (by simp;omega) ?_)
     intro v' w1 hown' hgr _
     have hB:=Hd (below_append hW hz hown hgr)
     replace hown':=Hd hown'
     clear hgr hown
     go_wp2
     refine⟨?_,by simp[intAt];omega⟩
     have ee:((l.length:Int)+1)=(((l++ [x-c+2]).length:Nat):Int):=by simp
     rw[ee]
     unfold mnsRel
     refine⟨hB.out,l++ [x-c+2],1,v',frame_ex rfl,by simpa using hown'.out,hd.snoc (by omega),by omega,?_,by simp;omega⟩
     have:=hv.out
     have e1:(x-c+2).toNat+c.toNat=x.toNat+2*(1:Int).toNat:=by omega
     obtain⟨Pw,hPw⟩:∃Pw,Pw=2^l.length:=⟨_,rfl⟩
     rw[valD_snoc,List.length_append,List.length_singleton,Nat.pow_succ,ta.out,tb.out]
     rw[<-hPw] at this⊢
     have e2:Pw*(x-c+2).toNat+Pw*c.toNat=Pw*x.toNat+Pw*(2*(1:Int).toNat):=by rw[<-Nat.mul_add,e1,Nat.mul_add]
     have e3:Pw*2*(1:Int).toNat=Pw*(2*(1:Int).toNat):=Nat.mul_assoc _ _ _
     omega
    ·
     go_wp2_with (at_builtin;refine wpList_append_own _ rfl (.tmp 35) (.tmp 37) 204 rfl w.heap.size 3 i0 (.int .i64 0) 1 8 (by kernel_rfl) hi hz0 hz1 hz2 rfl (by decide) _ _ _ rfl (hown.alloc _) ⟨W.heap.size,0,none⟩ 1 1 [.int .i64 (x-c)] rfl rfl (cell_one_new _ _ _) (by simp[Value.oneCell']) (by simp[maxLen];omega) (by omega) (by simp;omega) ?_)
     intro v' w1 hown' hgr _
     have hB:=Hd (below_append hW hz hown hgr)
     replace hown':=Hd hown'
     clear hgr hown
     go_wp2
     refine⟨?_,by simp[intAt];omega⟩
     have ee:((l.length:Int)+1)=(((l++ [x-c]).length:Nat):Int):=by simp
     rw[ee]
     unfold mnsRel
     refine⟨hB.out,l++ [x-c],0,v',frame_ex rfl,by simpa using hown'.out,hd.snoc (by omega),by omega,?_,by simp;omega⟩
     have:=hv.out
     have e1:(x-c).toNat+c.toNat=x.toNat+2*(0:Int).toNat:=by omega
     obtain⟨Pw,hPw⟩:∃Pw,Pw=2^l.length:=⟨_,rfl⟩
     rw[valD_snoc,List.length_append,List.length_singleton,Nat.pow_succ,ta.out,tb.out]
     rw[<-hPw] at this⊢
     have e2:Pw*(x-c).toNat+Pw*c.toNat=Pw*x.toNat+Pw*(2*(0:Int).toNat):=by rw[<-Nat.mul_add,e1,Nat.mul_add]
     have e3:Pw*2*(0:Int).toNat=Pw*(2*(0:Int).toNat):=Nat.mul_assoc _ _ _
     omega
  ·have hl0:l.length=a.length:=by omega
   have hsum:=Hd (show valD l=valD a-valD b by
    have h1:=hv.out
    have h2:=valD_lt l hd
    rw[valD_all a (by omega),valD_all b (by omega)] at h1
    rcases (show c=0∨c=1 by omega) with rfl|rfl
    ·simp at h1;omega
    ·simp at h1;omega)
   obtain⟨p',cap',hv',hcap,hcm,hn',hI⟩:∃p' cap',v= .slice p' l.length cap'/\l.length<=cap'/\cap'<=9223372036854775807/\(p'=none->l= []/\cap'=0)/\DigsIn W p' l:=by
    obtain⟨_,h2'|⟨g,cap',cur,rfl,hg,hb',hn,hmx,hcc,ht⟩⟩:=hown
    ·obtain⟨rfl,h0⟩:=h2'
     have:l= []:=List.length_eq_zero_iff.1 h0
     subst this
     exact⟨none,0,rfl,by simp,by omega,fun _=>⟨rfl,rfl⟩,⟨fun i x h=>by simp at h,fun a e=>by cases e⟩⟩
    ·exact⟨some ⟨g,0,none⟩,cap',rfl,hn,by unfold maxLen at hmx;omega,(fun e=>by cases e),clone_digs hb' (by simpa using ht)⟩
   subst hv'
   have ct:=fun W' (hW':Below W.heap.size W W')=>c_trim p' cap' l W' (hI.below hW') hn' hcap hcm (by omega) hd
   rw[hsum.out] at ct
   replace ct:=Hd ct
   clear hv hI hl0
   go_wp2_with fail
   refine(ct.out _ (Below.refl _ _)).mono ?_
   rintro e w2 ⟨v2,rfl,hb2,hB2⟩
   replace hb2:=Hd hb2
   have hBB:=Hd (hW.trans (hB2.mono hz))
   clear hB2
   go_wp2
   go_ret
   exact⟨v2,rfl,hb2.out,hBB.out⟩
attribute [local simp] Oper.looksAt Op.operands Call.operands envOf Det GDet
theorem canon_len {l:List Int} {k:Nat} (h:Canon l) (hv:valD l<2^k):l.length<=k:=by
 rcases h with rfl|h
 ·simp
 ·rcases Nat.lt_or_ge k l.length with h1|h1
  ·have:=Nat.pow_le_pow_right (n:=2) (by omega) (show k<=l.length-1 by omega)
   omega
  ·exact h1
theorem c_plus (va vb:Value) (m n:Nat) (w:World) (ha:Bits w va m) (hb:Bits w vb n) (hm:m<2^900) (hn:n<2^900):
  Calls Tryz.prog 239 #[va,vb] w fun e w'=>∃v,e= .returned v/\Bits w' v (m+n)/\Below w.heap.size w w':=by
 obtain⟨p,a,ca,rfl,_,_,_,hia,hda,hca,rfl⟩:=ha
 obtain⟨q,b,cb,rfl,_,_,_,hib,hdb,hcb,rfl⟩:=hb
 have h1:=canon_len hca hm
 have h2:=canon_len hcb hn
 exact plus_w p q a b ca cb w hia hib hda hdb hca hcb (by omega) (by omega)
theorem c_minus (va vb:Value) (m n:Nat) (w:World) (ha:Bits w va m) (hb:Bits w vb n) (hm:m<2^900) (hn:n<=m):
  Calls Tryz.prog 241 #[va,vb] w fun e w'=>∃v,e= .returned v/\Bits w' v (m-n)/\Below w.heap.size w w':=by
 obtain⟨p,a,ca,rfl,_,_,_,hia,hda,hca,rfl⟩:=ha
 obtain⟨q,b,cb,rfl,_,_,_,hib,hdb,hcb,rfl⟩:=hb
 have h1:=canon_len hca hm
 refine minus_w p q a b ca cb w hia hib hda hdb (by omega) ?_ hn
 rcases Nat.lt_or_ge a.length b.length with h|h
 ·have:=less_len hda hcb h
  omega
 ·exact h
structure CellAt (w:World) (g o:Nat) (v:Value):Prop where
 cell:w.cell? ⟨g,o,none⟩=some v
theorem CellAt.rex {L:List Nat} {w w':World} {g o:Nat} {v:Value} (h:CellAt w g o v) (hr:Rex L w w') (hL:L= []):CellAt w' g o v:=by
 subst hL
 exact⟨(hr.below.cell (p:=⟨g,o,none⟩) (cell_lt h.cell)).trans h.cell⟩
theorem CellAt.drew {w:World} {g o:Nat} {v:Value} (h:CellAt w g o v):CellAt w.drew g o v:=⟨h.cell⟩
theorem less_ne (p q:Option Addr) (a b:List Int) (ca cb:Nat) (w:World) (hla:a.length<=1000) (hlb:b.length<=1000) (hne:((a.length:Int) !=b.length)=true):
  Cb 246 #[.slice p a.length ca,.slice q b.length cb] w (.bool (decide (a.length<b.length))):=by
 go_enter Tryz.func246,Tryz.ntmps246
 go_wp2
 go_ret
 exact⟨rfl,Below.refl _ _⟩
def lessRel (w:World) (p q:Option Addr) (a b:List Int) (ca cb:Nat) (a':Act) (W:World):Prop:=
 Below w.heap.size w W/\∃k:Nat,(∃u:Nat->Value,a'= {tmps:= #[.slice p a.length ca,.slice q b.length cb,u 2,u 3,u 4,.int .i64 ((k:Int)-1),u 6,u 7,u 8,u 9,u 10,u 11,u 12,u 13,u 14,u 15,u 16,u 17,u 18,u 19,u 20,u 21,u 22,u 23,u 24,u 25,u 26,u 27,u 28,u 29,u 30,u 31,u 32,u 33,u 34,u 35,u 36,u 37,u 38,u 39,u 40],defers:= []})/\k<=a.length/\a.drop k=b.drop k
theorem less_eq (p q:Option Addr) (a b:List Int) (ca cb:Nat) (w:World) (ha:DigsIn w p a) (hb:DigsIn w q b) (hda:Dig a) (hdb:Dig b) (hla:a.length<=1000) (heq:a.length=b.length):
  Cb 246 #[.slice p a.length ca,.slice q b.length cb] w (.bool (decide (valD a<valD b))):=by
 have hne:((a.length:Int) !=b.length)=false:=by rw[heq];simp
 have Heq:=Hd heq
 clear heq
 go_enter Tryz.func246,Tryz.ntmps246
 go_wp2
 refine wp_loop (lessRel w p q a b ca cb) (fun a' _=>((intAt (a'.tmps.getD 5 undef))+1).toNat) ?_ ?_
 ·unfold lessRel
  exact⟨Below.refl _ _,a.length,frame_ex rfl,Nat.le_refl _,by rw[List.drop_eq_nil_of_le (Nat.le_refl _),List.drop_eq_nil_of_le (by rw[Heq.out];exact Nat.le_refl _)]⟩
 ·rintro a' W ⟨hW,k,⟨u,rfl⟩,hk,hd⟩
  have hz:=hW.size
  replace hd:=Hd hd
  cases k with
  |zero=>
   have hab:valD a=valD b:=by have:=hd.out;simp at this;rw[this]
   have hf:=Hd (show decide (valD a<valD b)=false by simp;omega)
   clear hab hd
   go_wp2
   go_ret
   exact⟨by rw[hf.out];rfl,hW⟩
  |succ j=>
   obtain⟨x,hx⟩:∃x,a[j]? =some x:=⟨a[j],List.getElem?_eq_getElem (by omega)⟩
   obtain⟨y,hy⟩:∃y,b[j]? =some y:=⟨b[j]'(by rw[<-Heq.out];omega),List.getElem?_eq_getElem _⟩
   obtain⟨ga,oa,rfl,qa⟩:=(ha.below hW).at' _ x hx
   obtain⟨gb,ob,rfl,qb⟩:=(hb.below hW).at' _ y hy
   have cx:CellAt W ga (oa+j) (.int .i64 x):=⟨qa⟩
   have cy:CellAt W gb (ob+j) (.int .i64 y):=⟨qb⟩
   have hja:j<a.length:=by omega
   have hjb:j<b.length:=by rw[<-Heq.out];omega
   have hxx:=Hd hx
   have hyy:=Hd hy
   have e0:((j+1:Nat):Int)-1=(j:Int):=by omega
   have e1:=Hd e0
   have e2:=Hd (show ((j:Int)).toNat=j by omega)
   rw[e0]
   clear hx hy qa qb e0
   have b1:=cx
   have b2:=cy
   go_upto_region 6 with(fail)
   refine wp_facts (fun W'=>Below w.heap.size w W'/\CellAt W' ga (oa+j) (.int .i64 x)/\CellAt W' gb (ob+j) (.int .i64 y)) ⟨by exact belowAny,by exact b1,by exact b2⟩ ?_
   clear b1 b2 hW
   rintro W1 ⟨hW,b1,b2⟩
   have z2:=hW.size
   refine wp_region_ndQ 9 41 [] (fun W'=>Rex [] W1 W'/\CellAt W' ga (oa+j) (.int .i64 x)/\CellAt W' gb (ob+j) (.int .i64 y)) mixed (by kernel_rfl) rfl ⟨(Rex.refl _ _).drew,b1.drew,b2.drew⟩ (fun w w' ⟨h0,h1,h2⟩ hr=>⟨h0.trans hr,h1.rex hr (by simp<;>omega),h2.rex hr (by simp<;>omega)⟩) rfl ?_
   iterate 9
    apply nd_det (hg:=rfl) (hal:=rfl)
    ·intro a W' hC hE
     obtain⟨_,k1,k2⟩:=hC
     have k1:=k1.cell
     have k2:=k2.cell
     first
      |(simp at hE;simp[go_sem,Act.eval,iw,hE,k1,k2,hja,hjb,e1.out,e2.out];try rfl)
      |(clear hE;simp[go_sem,Act.eval,iw,k1,k2,hja,hjb,e1.out,e2.out];try rfl)
   rintro W3 ⟨hR,d1,d2⟩
   simp only[ndFinR,Det,forall_eq]
   intros
   repeat (rename GDet _ _ _ _=>hgd;clear hgd)
   simp only[nS]
   refine wpList_nil ?_
   replace hW:=hW.trans (hR.of_priv hW.size)
   clear hR
   try clear b1 b2
   have b1:=d1
   clear d1
   have b2:=d2
   clear d2
   by_cases hxy:x=y
   ·have hdj:=Hd (show a.drop j=b.drop j by
     rw[List.drop_eq_getElem_cons hja,List.drop_eq_getElem_cons hjb,hd.out]
     have t1:=hxx.out;have t2:=hyy.out
     rw[List.getElem?_eq_getElem hja] at t1
     rw[List.getElem?_eq_getElem hjb] at t2
     simp at t1 t2
     rw[t1,t2,hxy])
    have hb:=Hd (show (x !=y)=false by simp[hxy])
    rw[hb.out]
    clear hd
    go_wp2
    refine⟨?_,by simp[intAt]⟩
    unfold lessRel
    exact⟨hW,j,frame_ex rfl,by omega,hdj.out⟩
   ·have hb:=Hd (show (x !=y)=true by simp[hxy])
    rw[hb.out]
    have hres:=Hd (show decide (x<y)=decide (valD a<valD b) by
     have t1:=less_at hda hdb Heq.out hxx.out hyy.out hd.out
     have t2:=less_at hdb hda Heq.out.symm hyy.out hxx.out hd.out.symm
     rcases Int.lt_trichotomy x y with h|h|h
     ·simp[h,t1 h]
     ·exact absurd h hxy
     ·have:=t2 h
      simp;omega)
    go_wp2
    go_upto_region 7 with(fail)
    refine wp_facts (fun W'=>Below w.heap.size w W'/\CellAt W' ga (oa+j) (.int .i64 x)/\CellAt W' gb (ob+j) (.int .i64 y)) ⟨by exact belowAny,by exact b1,by exact b2⟩ ?_
    clear b1 b2 hW
    rintro W8 ⟨hW,b1,b2⟩
    have z9:=hW.size
    refine wp_region_ndQ 10 41 [] (fun W'=>Rex [] W8 W'/\CellAt W' ga (oa+j) (.int .i64 x)/\CellAt W' gb (ob+j) (.int .i64 y)) mixed (by kernel_rfl) rfl ⟨(Rex.refl _ _).drew,b1.drew,b2.drew⟩ (fun w w' ⟨h0,h1,h2⟩ hr=>⟨h0.trans hr,h1.rex hr (by simp<;>omega),h2.rex hr (by simp<;>omega)⟩) rfl ?_
    iterate 10
     apply nd_det (hg:=rfl) (hal:=rfl)
     ·intro a W' hC hE
      obtain⟨_,k1,k2⟩:=hC
      have k1:=k1.cell
      have k2:=k2.cell
      first
       |(simp at hE;simp[go_sem,Act.eval,iw,hE,k1,k2,hja,hjb,e1.out,e2.out];try rfl)
       |(clear hE;simp[go_sem,Act.eval,iw,k1,k2,hja,hjb,e1.out,e2.out];try rfl)
    rintro W10 ⟨hR,d1,d2⟩
    simp only[ndFinR,Det,forall_eq]
    intros
    repeat (rename GDet _ _ _ _=>hgd;clear hgd)
    simp only[nS]
    refine wpList_nil ?_
    replace hW:=hW.trans (hR.of_priv hW.size)
    clear hR
    try clear b1 b2
    have b1:=d1
    clear d1
    have b2:=d2
    clear d2
    go_wp2
    rw[hres.out]
    go_ret
    exact⟨rfl,hW⟩
theorem c_less (va vb:Value) (m n:Nat) (w:World) (ha:Bits w va m) (hb:Bits w vb n) (hm:m<2^900) (hn:n<2^900):
  Cb 246 #[va,vb] w (.bool (decide (m<n))):=by
 obtain⟨p,a,ca,rfl,_,_,_,hia,hda,hca,rfl⟩:=ha
 obtain⟨q,b,cb,rfl,_,_,_,hib,hdb,hcb,rfl⟩:=hb
 have h1:=canon_len hca hm
 have h2:=canon_len hcb hn
 by_cases he:a.length=b.length
 ·exact less_eq p q a b ca cb w hia hib hda hdb (by omega) he
 ·refine(less_ne p q a b ca cb w (by omega) (by omega) (by simp;omega)).mono ?_
  rintro e w' ⟨rfl,h⟩
  refine⟨?_,h⟩
  congr 2
  rcases Nat.lt_or_ge a.length b.length with h3|h3
  ·have:=less_len hda hcb h3
   simp[h3,this]
  ·have:=less_len hdb hca (by omega)
   simp;omega
end Go.Proofs.YtpdhdjlhicceoaaGreatDoor
namespace Go.Proofs.YtpdhdjlhicceoaaGreatDoor
open Go.RowKit
theorem row_ints {w:World} {base n:Nat} {v:Value} {l:List Int} (h:w.ownsRow base 3 1 v n (l.map (Value.int .i64))) (hn:n=l.length):
  ∃p cap,v= .slice p l.length cap/\l.length<=cap/\cap<=9223372036854775807/\(p=none->l= []/\cap=0)/\DigsIn w p l:=by
 subst hn
 obtain⟨_,h2'|⟨g,cap',cur,rfl,hg,hb',hn,hmx,hcc,ht⟩⟩:=h
 ·obtain⟨rfl,h0⟩:=h2'
  have:l= []:=List.length_eq_zero_iff.1 h0
  subst this
  exact⟨none,0,rfl,by simp,by omega,fun _=>⟨rfl,rfl⟩,⟨fun i x h=>by simp at h,fun a e=>by cases e⟩⟩
 ·exact⟨some ⟨g,0,none⟩,cap',rfl,by simpa using hn,by unfold maxLen at hmx;omega,(fun e=>by cases e),clone_digs hb' (by simpa using ht)⟩
theorem row_fresh {B:Nat} (W:World) (d:Int) (hB:B<=W.heap.size):
  (W.alloc (.cells #[.int .i64 d] 3)).ownsRow B 3 1 (.slice (some ⟨W.heap.size,0,none⟩) 1 1) 1 [.int .i64 d]:=
 ⟨rfl,.inr ⟨W.heap.size,1,#[.int .i64 d],rfl,hB,Array.getElem?_push_size,Nat.le_refl _,by unfold maxLen;omega,rfl,rfl⟩⟩
theorem fresh_ints (W:World) (d:Int):DigsIn (W.alloc (.cells #[.int .i64 d] 3)) (some ⟨W.heap.size,0,none⟩) [d]:=by
 obtain⟨p,cap,e,_,_,_,h⟩:=row_ints (l:= [d]) (row_fresh W d (Nat.le_refl _)) rfl
 cases e
 exact h
theorem ints_one (l:List Int):∀u∈l.map (Value.int .i64),u.oneCell'=true:=by
 intro u hu
 obtain⟨x,_,rfl⟩:=List.mem_map.1 hu
 rfl
theorem ints_new {W:World} {ad:Addr} {l:List Int} {o:Obj} (h:DigsIn W (some ad) l):∀j u,(l.map (Value.int .i64))[j]? =some u->(W.alloc o).cell? (ad.add j)=some u:=by
 intro j u hu
 rw[List.getElem?_map] at hu
 obtain⟨x,hx,rfl⟩:=Option.map_eq_some_iff.1 hu
 obtain⟨b,o',e,hc⟩:=h.at' j x hx
 cases e
 have:=(((Below.refl W.heap.size W).alloc (Nat.le_refl _) o).cell (p:=⟨b,o'+j,none⟩) (cell_lt hc)).trans hc
 rw[Addr.add_lit]
 exact this
theorem valD_pow {l:List Int} (h:Dig l) {k:Nat} (hl:l.length<=k):valD l<2^k:=
 Nat.lt_of_lt_of_le (valD_lt l h) (Nat.pow_le_pow_right (by omega) hl)
theorem valD_drop {b:List Int} {j:Nat} {y:Int} (h:b[j]? =some y):valD (b.drop j)=y.toNat+2*valD (b.drop (j+1)):=by
 obtain⟨h1,h2⟩:=List.getElem?_eq_some_iff.1 h
 rw[List.drop_eq_getElem_cons h1,h2]
 rfl
theorem mul_pow {m n:Nat} (j k i:Nat) (h1:m<2^j) (h2:n<2^k) (h:j+k=i):m*n<2^i:=by
 subst h
 rw[Nat.pow_add]
 exact Nat.mul_lt_mul'' h1 h2
def timRel (w:World) (p q:Option Addr) (a b:List Int) (ca cb:Nat) (a':Act) (W:World):Prop:=
 Below w.heap.size w W/\∃(k:Nat) (v:Value),(∃u:Nat->Value,a'= {tmps:= #[.slice p a.length ca,.slice q b.length cb,u 2,u 3,u 4,v,.int .i64 ((k:Int)-1),u 7,u 8,u 9,u 10,u 11,u 12,u 13,u 14,u 15,u 16,u 17,u 18,u 19,u 20,u 21,u 22,u 23,u 24,u 25,u 26],defers:= []})/\k<=b.length/\Bits W v (valD a*valD (b.drop k))
theorem times_w (p q:Option Addr) (a b:List Int) (ca cb:Nat) (w:World) (ha:DigsIn w p a) (hb:DigsIn w q b) (hda:Dig a) (hdb:Dig b) (hA:Bits w (.slice p a.length ca) (valD a)) (hla:a.length<=400) (hlb:b.length<=400):
  Calls Tryz.prog 247 #[.slice p a.length ca,.slice q b.length cb] w fun e w'=>∃v,e= .returned v/\Bits w' v (valD a*valD b)/\Below w.heap.size w w':=by
 obtain⟨i0,hi,hz0,hz1,hz2⟩:=info_parts Tryz.infoI
 go_enter Tryz.func247,Tryz.ntmps247
 go_wp2
 refine wp_loop (timRel w p q a b ca cb) (fun a' _=>((intAt (a'.tmps.getD 6 undef))+1).toNat) ?_ ?_
 ·unfold timRel
  exact⟨Below.refl _ _,b.length,_,frame_ex rfl,Nat.le_refl _,by rw[List.drop_eq_nil_of_le (Nat.le_refl _)];exact Bits.zero _⟩
 ·rintro a' W ⟨hW,k,v,⟨u,rfl⟩,hk,hv⟩
  have hz:=hW.size
  cases k with
  |zero=>
   replace hv:=Hd hv
   go_wp2
   go_ret
   exact⟨_,rfl,by have:=hv.out;rwa [List.drop_zero] at this,hW⟩
  |succ j=>
   obtain⟨y,hy⟩:∃y,b[j]? =some y:=⟨b[j],List.getElem?_eq_getElem (by omega)⟩
   have hb0:=hb
   obtain⟨gb,ob,rfl,qb⟩:=(hb.below hW).at' _ y hy
   obtain⟨pl,l,cl,rfl,hlc,hl1,hln,hil,hdl,hcl,hvl⟩:=hv
   replace hvl:=Hd hvl
   replace hln:=Hd hln
   have hyy:=Hd hy
   have by01:=hdb.at hy
   have e0:((j+1:Nat):Int)-1=(j:Int):=by omega
   have e1:=Hd e0
   rw[e0]
   clear hy e0
   have hprod:=Hd (mul_pow (m:=valD a) (n:=valD (b.drop (j+1))) 400 400 800 (valD_pow (k:=400) hda hla) (valD_pow (k:=400) (hdb.drop _) (by simp;omega)) rfl)
   have hstep:=Hd (valD_drop hyy.out)
   have hl9:l.length<=800:=canon_len hcl (by rw[hvl.out];exact hprod.out)
   cases pl with
   |none=>
    obtain⟨rfl,rfl⟩:=hln.out rfl
    have ct:=Hd (fun W' (hW':Below (W.alloc (.cells #[.int .i64 0] 3)).heap.size (W.alloc (.cells #[.int .i64 0] 3)) W')=>c_trim (some ⟨W.heap.size,0,none⟩) 1 [0] W' ((fresh_ints W 0).below hW') (fun e=>by cases e) (by simp) (by omega) (by simp) (Dig.nil.cons (.inl rfl)))
    have hB:=hW.alloc hz (.cells #[.int .i64 0] 3)
    replace hB:=Hd hB
    have hz1:=hB.out.size
    go_wp2_with fail
    refine(ct.out _ (Below.refl _ _)).mono ?_
    rintro e w2 ⟨v2,rfl,hb2,hB2⟩
    rw[show valD (0:: [])=2*(valD a*valD (b.drop (j+1))) by rw[<-hvl.out];simp[valD]] at hb2
    replace hb2:=Hd hb2
    have hBB:=Hd (hB.out.trans (hB2.mono hz1))
    have hz2:=hBB.out.size
    obtain⟨_,_,e,qb2⟩:=(hb0.below hBB.out).at' _ y hyy.out
    cases e
    clear hB2 hB ct hz1 qb
    rcases by01 with rfl|rfl
    ·have hval:=Hd (show valD a*valD (b.drop j)=2*(valD a*valD (b.drop (j+1))) by rw[hstep.out,Nat.mul_add,Nat.mul_left_comm];simp)
     go_wp2
     refine⟨?_,by simp[intAt]⟩
     unfold timRel
     exact⟨hBB.out,j,v2,frame_ex rfl,by omega,by rw[hval.out];exact hb2.out⟩
    ·have hval:=Hd (show valD a*valD (b.drop j)=2*(valD a*valD (b.drop (j+1)))+valD a by rw[hstep.out,Nat.mul_add,Nat.mul_left_comm];simp;omega)
     have cp:=Hd (c_plus v2 (.slice p a.length ca) _ _ w2 hb2.out (hA.below hBB.out) (twice_pow 800 900 hprod.out (by omega)) (valD_pow (k:=900) hda (by omega)))
     go_wp2_with fail
     refine cp.out.mono ?_
     rintro e w3 ⟨v3,rfl,hb3,hB3⟩
     replace hb3:=Hd hb3
     have hB4:=Hd (hBB.out.trans (hB3.mono hz2))
     clear hB3 cp
     go_wp2
     refine⟨?_,by simp[intAt]⟩
     unfold timRel
     exact⟨hB4.out,j,v3,frame_ex rfl,by omega,by rw[hval.out];exact hb3.out⟩
   |some ad=>
    go_wp2_with (at_builtin;refine wpList_append_own _ rfl (.tmp 14) (.tmp 15) 204 rfl w.heap.size 3 i0 (.int .i64 0) 1 8 (by kernel_rfl) hi hz0 hz1 hz2 rfl (by decide) _ 1 [.int .i64 0] rfl (row_fresh W 0 hz) ad l.length cl (l.map (Value.int .i64)) rfl (by simp) (ints_new hil) (ints_one l) (by simp[maxLen];omega) (by omega) (by simp;omega) ?_)
    intro v' w1 hown hgr _
    obtain⟨p',cap',rfl,hcap,hcm,hn',hI⟩:=row_ints (l:=0::l) hown (by simp;omega)
    have hB:=(hW.alloc hz (.cells #[.int .i64 0] 3)).grown hgr (by simp;omega) fun j ej=>by
     obtain rfl:W.heap.size=j:=by simpa [Value.ownBlock] using ej
     exact hz
    have ct:=Hd (fun W' (hW':Below w1.heap.size w1 W')=>c_trim p' cap' (0::l) W' (hI.below hW') hn' hcap hcm (by simp;omega) (hdl.cons (.inl rfl)))
    clear hown hgr hI
    replace hB:=Hd hB
    have hz1:=hB.out.size
    go_wp2_with fail
    refine(ct.out _ (Below.refl _ _)).mono ?_
    rintro e w2 ⟨v2,rfl,hb2,hB2⟩
    rw[show valD (0::l)=2*(valD a*valD (b.drop (j+1))) by rw[<-hvl.out];simp[valD]] at hb2
    replace hb2:=Hd hb2
    have hBB:=Hd (hB.out.trans (hB2.mono hz1))
    have hz2:=hBB.out.size
    obtain⟨_,_,e,qb2⟩:=(hb0.below hBB.out).at' _ y hyy.out
    cases e
    clear hB2 hB ct hz1 qb
    rcases by01 with rfl|rfl
    ·have hval:=Hd (show valD a*valD (b.drop j)=2*(valD a*valD (b.drop (j+1))) by rw[hstep.out,Nat.mul_add,Nat.mul_left_comm];simp)
     go_wp2
     refine⟨?_,by simp[intAt]⟩
     unfold timRel
     exact⟨hBB.out,j,v2,frame_ex rfl,by omega,by rw[hval.out];exact hb2.out⟩
    ·have hval:=Hd (show valD a*valD (b.drop j)=2*(valD a*valD (b.drop (j+1)))+valD a by rw[hstep.out,Nat.mul_add,Nat.mul_left_comm];simp;omega)
     have cp:=Hd (c_plus v2 (.slice p a.length ca) _ _ w2 hb2.out (hA.below hBB.out) (twice_pow 800 900 hprod.out (by omega)) (valD_pow (k:=900) hda (by omega)))
     go_wp2_with fail
     refine cp.out.mono ?_
     rintro e w3 ⟨v3,rfl,hb3,hB3⟩
     replace hb3:=Hd hb3
     have hB4:=Hd (hBB.out.trans (hB3.mono hz2))
     clear hB3 cp
     go_wp2
     refine⟨?_,by simp[intAt]⟩
     unfold timRel
     exact⟨hB4.out,j,v3,frame_ex rfl,by omega,by rw[hval.out];exact hb3.out⟩
theorem c_times (va vb:Value) (m n:Nat) (w:World) (ha:Bits w va m) (hb:Bits w vb n) (hm:m<2^400) (hn:n<2^400):
  Calls Tryz.prog 247 #[va,vb] w fun e w'=>∃v,e= .returned v/\Bits w' v (m*n)/\Below w.heap.size w w':=by
 have hA:=ha
 obtain⟨p,a,ca,rfl,_,_,_,hia,hda,hca,rfl⟩:=ha
 obtain⟨q,b,cb,rfl,_,_,_,hib,hdb,hcb,rfl⟩:=hb
 exact times_w p q a b ca cb w hia hib hda hdb hA (canon_len hca hm) (canon_len hcb hn)
def parRel (w:World) (p:Option Addr) (a:List Int) (n ca:Nat) (vb:Value) (a':Act) (W:World):Prop:=
 Below w.heap.size w W/\∃(k:Nat) (v:Value) (pq:Option Addr) (lq:List Int) (cq r:Nat),(∃u:Nat->Value,a'= {tmps:= #[.slice p a.length ca,vb,u 2,u 3,u 4,u 5,.slice pq lq.length cq,v,.int .i64 ((k:Int)-1),u 9,u 10,u 11,u 12,u 13,u 14,u 15,u 16,u 17,u 18,u 19,u 20,u 21,u 22,u 23,u 24,u 25,u 26,u 27,u 28,u 29,u 30,u 31,u 32,u 33,u 34,u 35,u 36,u 37,u 38],defers:= []})/\k<=a.length/\
  Bits W v r/\r<n/\DigsIn W pq lq/\Dig lq/\(pq=none->lq= []/\cq=0)/\(lq.length<=cq/\cq<=9223372036854775807)/\lq.length+k=a.length/\valD (a.drop k)=valD lq*n+r
theorem parts_w (p:Option Addr) (a:List Int) (ca n:Nat) (vb:Value) (w:World) (ha:DigsIn w p a) (hb:Bits w vb n) (hda:Dig a) (hla:a.length<=800) (hn0:0<n) (hn:n<2^800):
  Calls Tryz.prog 237 #[.slice p a.length ca,vb] w fun e w'=>∃v1 v2,e= .returned (.tuple #[v1,v2])/\Bits w' v1 (valD a/n)/\Bits w' v2 (valD a%n)/\Below w.heap.size w w':=by
 obtain⟨i0,hi,hz0,hz1,hz2⟩:=info_parts Tryz.infoI
 go_enter Tryz.func237,Tryz.ntmps237
 go_wp2
 refine wp_loop (parRel w p a n ca vb) (fun a' _=>((intAt (a'.tmps.getD 8 undef))+1).toNat) ?_ ?_
 ·unfold parRel
  exact⟨Below.refl _ _,a.length,_,none,[],0,0,frame_ex rfl,Nat.le_refl _,Bits.zero _,hn0,⟨fun i x h=>by simp at h,fun a e=>by cases e⟩,Dig.nil,fun _=>⟨rfl,rfl⟩,by simp,by simp,by rw[List.drop_eq_nil_of_le (Nat.le_refl _)];simp[valD]⟩
 ·rintro a' W ⟨hW,k,v,pq,lq,cq,r,⟨u,rfl⟩,hk,hv,hr,hiq,hdq,hnq,hcq,hlq,hinv⟩
  have hz:=hW.size
  replace hinv:=Hd hinv
  replace hnq:=Hd hnq
  replace hr:=Hd hr
  cases k with
  |zero=>
   replace hv:=Hd hv
   have ct:=Hd (fun W' (hW':Below W.heap.size W W')=>c_trim pq cq lq W' (hiq.below hW') hnq.out hcq.1 hcq.2 (by omega) hdq)
   clear hiq
   go_wp2_with fail
   refine(ct.out _ (Below.refl _ _)).mono ?_
   rintro e w2 ⟨v2,rfl,hb2,hB2⟩
   replace hb2:=Hd hb2
   have hv2:=Hd (hv.out.below hB2)
   have hBB:=Hd (hW.trans (hB2.mono hz))
   clear hB2 ct
   go_wp2
   have hin:=hinv.out
   have hrn:=hr.out
   rw[List.drop_zero] at hin
   have e1:valD a/n=valD lq:=by rw[hin,Nat.add_comm,Nat.add_mul_div_right _ _ hn0,Nat.div_eq_of_lt hrn,Nat.zero_add]
   have e2:valD a%n=r:=by rw[hin,Nat.add_comm,Nat.add_mul_mod_self_right,Nat.mod_eq_of_lt hrn]
   refine bodyPost_ret (v:= .tuple #[v2,v]) (by simp[results,Tryz.results237,go_sem]) rfl ⟨_,_,rfl,by rw[e1];exact hb2.out,by rw[e2];exact hv2.out,hBB.out⟩
  |succ j=>
   obtain⟨y,hy⟩:∃y,a[j]? =some y:=⟨a[j],List.getElem?_eq_getElem (by omega)⟩
   obtain⟨ga,oa,rfl,qb⟩:=(ha.below hW).at' _ y hy
   obtain⟨pl,l,cl,rfl,hlc,hl1,hln,hil,hdl,hcl,hvl⟩:=hv
   replace hvl:=Hd hvl
   replace hln:=Hd hln
   have by01:=hda.at hy
   have hstep:=Hd (valD_drop hy)
   have hl9:l.length<=800:=canon_len hcl (by rw[hvl.out];exact Nat.lt_trans hr.out hn)
   have hn9:=Hd (Nat.lt_trans hn (pow_lt2 800 900 (by omega)))
   have hiq0:=Hd hiq
   have e0:((j+1:Nat):Int)-1=(j:Int):=by omega
   rw[e0]
   clear hy e0 hiq hn
   cases pl with
   |none=>
    obtain⟨rfl,rfl⟩:=hln.out rfl
    have ct:=Hd (fun W' (hW':Below (W.alloc (.cells #[.int .i64 y] 3)).heap.size (W.alloc (.cells #[.int .i64 y] 3)) W')=>c_trim (some ⟨W.heap.size,0,none⟩) 1 [y] W' ((fresh_ints W y).below hW') (fun e=>by cases e) (by simp) (by omega) (by simp) (Dig.nil.cons by01))
    have hB:=hW.alloc hz (.cells #[.int .i64 y] 3)
    have hW1:=Hd ((Below.refl W.heap.size W).alloc (Nat.le_refl _) (.cells #[.int .i64 y] 3))
    have hz3:=hW1.out.size
    replace hB:=Hd hB
    have hs1:=hB.out.size
    go_wp2_with fail
    refine(ct.out _ (Below.refl _ _)).mono ?_
    rintro e w2 ⟨v2,rfl,hb2,hB2⟩
    obtain⟨R,hR⟩:∃R,R=valD (y:: []):=⟨_,rfl⟩
    have hz4:W.heap.size<=w2.heap.size:=Nat.le_trans hz3 hB2.size
    have hRlt:R<2^801:=by rw[hR];exact valD_pow (k:=801) (hdl.cons by01) (by simp<;>omega)
    have hR2:R=y.toNat+2*r:=by rw[hR,<-hvl.out];rfl
    rw[<-hR] at hb2
    clear hR
    have hRl:=Hd (Nat.lt_trans hRlt (pow_lt2 801 900 (by omega)))
    replace hb2:=Hd hb2
    have hBB:=Hd (hB.out.trans (hB2.mono hs1))
    have hs2:=hBB.out.size
    have cl:=Hd (c_less v2 vb R n w2 hb2.out (hb.below hBB.out) hRl.out hn9.out)
    have hW2:=Hd (hW1.out.trans (hB2.mono hz3))
    clear hB2 hB ct hs1 qb hRlt
    replace hR2:=Hd hR2
    go_wp2_with fail
    refine cl.out.mono ?_
    rintro e w3 ⟨rfl,hB3⟩
    have hb3:=Hd (hb2.out.below hB3)
    have hB4:=Hd (hBB.out.trans (hB3.mono hs2))
    have hW3:=Hd (hW2.out.trans (hB3.mono hz4))
    clear hB3 cl
    by_cases hlt:R<n
    ·have hlt2:=Hd hlt
     have hinv2:=Hd (show valD (a.drop j)=valD (0::lq)*n+R by
      rw[hstep.out,hinv.out,hR2.out]
      simp only[valD]
      rw[show (0:Int).toNat=0 from rfl,Nat.zero_add,Nat.mul_assoc]
      omega)
     have hd:=Hd (show decide (R<n)=true by simp[hlt])
     rw[hd.out]
     clear hlt
     have hzs:=hB4.out.size
     cases pq with
     |none=>
      obtain⟨rfl,rfl⟩:=hnq.out rfl
      go_wp2
      refine⟨?_,by simp[intAt]⟩
      unfold parRel
      have hA:=hB4.out.alloc hzs (.cells #[.int .i64 0] 3)
      exact⟨hA,j,v2,some ⟨w3.heap.size,0,none⟩,[0],1,R,frame_ex rfl,by omega,hb3.out.below ((Below.refl _ _).alloc (Nat.le_refl _) _),hlt2.out,fresh_ints w3 0,Dig.nil.cons (by omega),(fun e=>by cases e),by simp,by simp at hlq⊢;omega,hinv2.out⟩
     |some aq=>
      have TT:=hiq0.out.below hW3.out
      have T4:1+lq.length<=maxLen:=by simp[maxLen];omega
      have T5:(1+lq.length)*8<=140737488355328:=by omega
      have T6:w.heap.size<=(w3.alloc (.cells #[.int .i64 0] 3)).heap.size:=by simp;omega
      go_wp2_with (at_builtin;refine wpList_append_own _ rfl (.tmp 33) (.tmp 34) 204 rfl w.heap.size 3 i0 (.int .i64 0) 1 8 (by kernel_rfl) hi hz0 hz1 hz2 rfl (by decide) _ 1 [.int .i64 0] rfl (row_fresh w3 0 hzs) aq lq.length cq (lq.map (Value.int .i64)) rfl (by simp) (ints_new TT) (ints_one lq) T4 T5 T6 ?_)
      clear TT T4 T5 T6
      intro v' w5 hown hgr _
      obtain⟨p',cap',rfl,hcap,hcm,hn',hI⟩:=row_ints (l:=0::lq) hown (by simp;omega)
      have hA:=Hd ((hB4.out.alloc hzs (.cells #[.int .i64 0] 3)).grown hgr (by simp;omega) fun j ej=>by
       obtain rfl:w3.heap.size=j:=by simpa [Value.ownBlock] using ej
       exact hzs)
      have hA2:=Hd (((Below.refl w3.heap.size w3).alloc (Nat.le_refl _) (.cells #[.int .i64 0] 3)).grown hgr (by simp) fun j ej=>by
       obtain rfl:w3.heap.size=j:=by simpa [Value.ownBlock] using ej
       exact Nat.le_refl _)
      replace hI:=Hd hI
      replace hn':=Hd hn'
      clear hown hgr
      go_wp2
      refine⟨?_,by simp[intAt]⟩
      unfold parRel
      exact⟨hA.out,j,v2,p',0::lq,cap',R,frame_ex rfl,by omega,hb3.out.below hA2.out,hlt2.out,hI.out,hdq.cons (by omega),(fun e=>absurd (hn'.out e).1 (by simp)),⟨hcap,hcm⟩,by simp;omega,hinv2.out⟩
    ·have hlt2:=Hd (show R-n<n by have:=hR2.out;have:=hr.out;omega)
     have hinv2:=Hd (show valD (a.drop j)=valD (1::lq)*n+(R-n) by
      rw[hstep.out,hinv.out]
      simp only[valD]
      rw[show (1:Int).toNat=1 from rfl,Nat.add_mul,Nat.mul_assoc]
      have:=hR2.out
      omega)
     have hd:=Hd (show decide (R<n)=false by simp;omega)
     rw[hd.out]
     have cm:=Hd (c_minus v2 vb R n w3 hb3.out (hb.below hB4.out) hRl.out (by omega))
     have hs4:=hB4.out.size
     go_wp2_with fail
     refine cm.out.mono ?_
     rintro e w4 ⟨v4,rfl,hb5,hB5⟩
     replace hb5:=Hd hb5
     have hB6:=Hd (hB4.out.trans (hB5.mono hs4))
     have hz5:W.heap.size<=w3.heap.size:=hW3.out.size
     have hW4:=Hd (hW3.out.trans (hB5.mono hz5))
     clear hB5 cm
     have hzs:=hB6.out.size
     cases pq with
     |none=>
      obtain⟨rfl,rfl⟩:=hnq.out rfl
      go_wp2
      refine⟨?_,by simp[intAt]⟩
      unfold parRel
      have hA:=hB6.out.alloc hzs (.cells #[.int .i64 1] 3)
      exact⟨hA,j,v4,some ⟨w4.heap.size,0,none⟩,[1],1,(R-n),frame_ex rfl,by omega,hb5.out.below ((Below.refl _ _).alloc (Nat.le_refl _) _),hlt2.out,fresh_ints w4 1,Dig.nil.cons (by omega),(fun e=>by cases e),by simp,by simp at hlq⊢;omega,hinv2.out⟩
     |some aq=>
      have TT:=hiq0.out.below hW4.out
      have T4:1+lq.length<=maxLen:=by simp[maxLen];omega
      have T5:(1+lq.length)*8<=140737488355328:=by omega
      have T6:w.heap.size<=(w4.alloc (.cells #[.int .i64 1] 3)).heap.size:=by simp;omega
      go_wp2_with (at_builtin;refine wpList_append_own _ rfl (.tmp 33) (.tmp 34) 204 rfl w.heap.size 3 i0 (.int .i64 0) 1 8 (by kernel_rfl) hi hz0 hz1 hz2 rfl (by decide) _ 1 [.int .i64 1] rfl (row_fresh w4 1 hzs) aq lq.length cq (lq.map (Value.int .i64)) rfl (by simp) (ints_new TT) (ints_one lq) T4 T5 T6 ?_)
      clear TT T4 T5 T6
      intro v' w5 hown hgr _
      obtain⟨p',cap',rfl,hcap,hcm,hn',hI⟩:=row_ints (l:=1::lq) hown (by simp;omega)
      have hA:=Hd ((hB6.out.alloc hzs (.cells #[.int .i64 1] 3)).grown hgr (by simp;omega) fun j ej=>by
       obtain rfl:w4.heap.size=j:=by simpa [Value.ownBlock] using ej
       exact hzs)
      have hA2:=Hd (((Below.refl w4.heap.size w4).alloc (Nat.le_refl _) (.cells #[.int .i64 1] 3)).grown hgr (by simp) fun j ej=>by
       obtain rfl:w4.heap.size=j:=by simpa [Value.ownBlock] using ej
       exact Nat.le_refl _)
      replace hI:=Hd hI
      replace hn':=Hd hn'
      clear hown hgr
      go_wp2
      refine⟨?_,by simp[intAt]⟩
      unfold parRel
      exact⟨hA.out,j,v4,p',1::lq,cap',(R-n),frame_ex rfl,by omega,hb5.out.below hA2.out,hlt2.out,hI.out,hdq.cons (by omega),(fun e=>absurd (hn'.out e).1 (by simp)),⟨hcap,hcm⟩,by simp;omega,hinv2.out⟩
   |some ad=>
    go_wp2_with (at_builtin;refine wpList_append_own _ rfl (.tmp 21) (.tmp 22) 204 rfl w.heap.size 3 i0 (.int .i64 0) 1 8 (by kernel_rfl) hi hz0 hz1 hz2 rfl (by decide) _ 1 [.int .i64 y] rfl (row_fresh W y hz) ad l.length cl (l.map (Value.int .i64)) rfl (by simp) (ints_new hil) (ints_one l) (by simp[maxLen];omega) (by omega) (by simp;omega) ?_)
    intro v' w1 hown hgr _
    obtain⟨p',cap',rfl,hcap,hcm,hn',hI⟩:=row_ints (l:=y::l) hown (by simp;omega)
    have hB:=(hW.alloc hz (.cells #[.int .i64 y] 3)).grown hgr (by simp;omega) fun j ej=>by
     obtain rfl:W.heap.size=j:=by simpa [Value.ownBlock] using ej
     exact hz
    have hW1:=Hd (((Below.refl W.heap.size W).alloc (Nat.le_refl _) (.cells #[.int .i64 y] 3)).grown hgr (by simp) fun j ej=>by
     obtain rfl:W.heap.size=j:=by simpa [Value.ownBlock] using ej
     exact Nat.le_refl _)
    have hz3:=hW1.out.size
    have ct:=Hd (fun W' (hW':Below w1.heap.size w1 W')=>c_trim p' cap' (y::l) W' (hI.below hW') hn' hcap hcm (by simp;omega) (hdl.cons by01))
    clear hown hgr hI
    replace hB:=Hd hB
    have hs1:=hB.out.size
    go_wp2_with fail
    refine(ct.out _ (Below.refl _ _)).mono ?_
    rintro e w2 ⟨v2,rfl,hb2,hB2⟩
    obtain⟨R,hR⟩:∃R,R=valD (y::l):=⟨_,rfl⟩
    have hz4:W.heap.size<=w2.heap.size:=Nat.le_trans hz3 hB2.size
    have hRlt:R<2^801:=by rw[hR];exact valD_pow (k:=801) (hdl.cons by01) (by simp<;>omega)
    have hR2:R=y.toNat+2*r:=by rw[hR,<-hvl.out];rfl
    rw[<-hR] at hb2
    clear hR
    have hRl:=Hd (Nat.lt_trans hRlt (pow_lt2 801 900 (by omega)))
    replace hb2:=Hd hb2
    have hBB:=Hd (hB.out.trans (hB2.mono hs1))
    have hs2:=hBB.out.size
    have cl:=Hd (c_less v2 vb R n w2 hb2.out (hb.below hBB.out) hRl.out hn9.out)
    have hW2:=Hd (hW1.out.trans (hB2.mono hz3))
    clear hB2 hB ct hs1 qb hRlt
    replace hR2:=Hd hR2
    go_wp2_with fail
    refine cl.out.mono ?_
    rintro e w3 ⟨rfl,hB3⟩
    have hb3:=Hd (hb2.out.below hB3)
    have hB4:=Hd (hBB.out.trans (hB3.mono hs2))
    have hW3:=Hd (hW2.out.trans (hB3.mono hz4))
    clear hB3 cl
    by_cases hlt:R<n
    ·have hlt2:=Hd hlt
     have hinv2:=Hd (show valD (a.drop j)=valD (0::lq)*n+R by
      rw[hstep.out,hinv.out,hR2.out]
      simp only[valD]
      rw[show (0:Int).toNat=0 from rfl,Nat.zero_add,Nat.mul_assoc]
      omega)
     have hd:=Hd (show decide (R<n)=true by simp[hlt])
     rw[hd.out]
     clear hlt
     have hzs:=hB4.out.size
     cases pq with
     |none=>
      obtain⟨rfl,rfl⟩:=hnq.out rfl
      go_wp2
      refine⟨?_,by simp[intAt]⟩
      unfold parRel
      have hA:=hB4.out.alloc hzs (.cells #[.int .i64 0] 3)
      exact⟨hA,j,v2,some ⟨w3.heap.size,0,none⟩,[0],1,R,frame_ex rfl,by omega,hb3.out.below ((Below.refl _ _).alloc (Nat.le_refl _) _),hlt2.out,fresh_ints w3 0,Dig.nil.cons (by omega),(fun e=>by cases e),by simp,by simp at hlq⊢;omega,hinv2.out⟩
     |some aq=>
      have TT:=hiq0.out.below hW3.out
      have T4:1+lq.length<=maxLen:=by simp[maxLen];omega
      have T5:(1+lq.length)*8<=140737488355328:=by omega
      have T6:w.heap.size<=(w3.alloc (.cells #[.int .i64 0] 3)).heap.size:=by simp;omega
      go_wp2_with (at_builtin;refine wpList_append_own _ rfl (.tmp 33) (.tmp 34) 204 rfl w.heap.size 3 i0 (.int .i64 0) 1 8 (by kernel_rfl) hi hz0 hz1 hz2 rfl (by decide) _ 1 [.int .i64 0] rfl (row_fresh w3 0 hzs) aq lq.length cq (lq.map (Value.int .i64)) rfl (by simp) (ints_new TT) (ints_one lq) T4 T5 T6 ?_)
      clear TT T4 T5 T6
      intro v' w5 hown hgr _
      obtain⟨p',cap',rfl,hcap,hcm,hn',hI⟩:=row_ints (l:=0::lq) hown (by simp;omega)
      have hA:=Hd ((hB4.out.alloc hzs (.cells #[.int .i64 0] 3)).grown hgr (by simp;omega) fun j ej=>by
       obtain rfl:w3.heap.size=j:=by simpa [Value.ownBlock] using ej
       exact hzs)
      have hA2:=Hd (((Below.refl w3.heap.size w3).alloc (Nat.le_refl _) (.cells #[.int .i64 0] 3)).grown hgr (by simp) fun j ej=>by
       obtain rfl:w3.heap.size=j:=by simpa [Value.ownBlock] using ej
       exact Nat.le_refl _)
      replace hI:=Hd hI
      replace hn':=Hd hn'
      clear hown hgr
      go_wp2
      refine⟨?_,by simp[intAt]⟩
      unfold parRel
      exact⟨hA.out,j,v2,p',0::lq,cap',R,frame_ex rfl,by omega,hb3.out.below hA2.out,hlt2.out,hI.out,hdq.cons (by omega),(fun e=>absurd (hn'.out e).1 (by simp)),⟨hcap,hcm⟩,by simp;omega,hinv2.out⟩
    ·have hlt2:=Hd (show R-n<n by have:=hR2.out;have:=hr.out;omega)
     have hinv2:=Hd (show valD (a.drop j)=valD (1::lq)*n+(R-n) by
      rw[hstep.out,hinv.out]
      simp only[valD]
      rw[show (1:Int).toNat=1 from rfl,Nat.add_mul,Nat.mul_assoc]
      have:=hR2.out
      omega)
     have hd:=Hd (show decide (R<n)=false by simp;omega)
     rw[hd.out]
     have cm:=Hd (c_minus v2 vb R n w3 hb3.out (hb.below hB4.out) hRl.out (by omega))
     have hs4:=hB4.out.size
     go_wp2_with fail
     refine cm.out.mono ?_
     rintro e w4 ⟨v4,rfl,hb5,hB5⟩
     replace hb5:=Hd hb5
     have hB6:=Hd (hB4.out.trans (hB5.mono hs4))
     have hz5:W.heap.size<=w3.heap.size:=hW3.out.size
     have hW4:=Hd (hW3.out.trans (hB5.mono hz5))
     clear hB5 cm
     have hzs:=hB6.out.size
     cases pq with
     |none=>
      obtain⟨rfl,rfl⟩:=hnq.out rfl
      go_wp2
      refine⟨?_,by simp[intAt]⟩
      unfold parRel
      have hA:=hB6.out.alloc hzs (.cells #[.int .i64 1] 3)
      exact⟨hA,j,v4,some ⟨w4.heap.size,0,none⟩,[1],1,(R-n),frame_ex rfl,by omega,hb5.out.below ((Below.refl _ _).alloc (Nat.le_refl _) _),hlt2.out,fresh_ints w4 1,Dig.nil.cons (by omega),(fun e=>by cases e),by simp,by simp at hlq⊢;omega,hinv2.out⟩
     |some aq=>
      have TT:=hiq0.out.below hW4.out
      have T4:1+lq.length<=maxLen:=by simp[maxLen];omega
      have T5:(1+lq.length)*8<=140737488355328:=by omega
      have T6:w.heap.size<=(w4.alloc (.cells #[.int .i64 1] 3)).heap.size:=by simp;omega
      go_wp2_with (at_builtin;refine wpList_append_own _ rfl (.tmp 33) (.tmp 34) 204 rfl w.heap.size 3 i0 (.int .i64 0) 1 8 (by kernel_rfl) hi hz0 hz1 hz2 rfl (by decide) _ 1 [.int .i64 1] rfl (row_fresh w4 1 hzs) aq lq.length cq (lq.map (Value.int .i64)) rfl (by simp) (ints_new TT) (ints_one lq) T4 T5 T6 ?_)
      clear TT T4 T5 T6
      intro v' w5 hown hgr _
      obtain⟨p',cap',rfl,hcap,hcm,hn',hI⟩:=row_ints (l:=1::lq) hown (by simp;omega)
      have hA:=Hd ((hB6.out.alloc hzs (.cells #[.int .i64 1] 3)).grown hgr (by simp;omega) fun j ej=>by
       obtain rfl:w4.heap.size=j:=by simpa [Value.ownBlock] using ej
       exact hzs)
      have hA2:=Hd (((Below.refl w4.heap.size w4).alloc (Nat.le_refl _) (.cells #[.int .i64 1] 3)).grown hgr (by simp) fun j ej=>by
       obtain rfl:w4.heap.size=j:=by simpa [Value.ownBlock] using ej
       exact Nat.le_refl _)
      replace hI:=Hd hI
      replace hn':=Hd hn'
      clear hown hgr
      go_wp2
      refine⟨?_,by simp[intAt]⟩
      unfold parRel
      exact⟨hA.out,j,v4,p',1::lq,cap',(R-n),frame_ex rfl,by omega,hb5.out.below hA2.out,hlt2.out,hI.out,hdq.cons (by omega),(fun e=>absurd (hn'.out e).1 (by simp)),⟨hcap,hcm⟩,by simp;omega,hinv2.out⟩
theorem c_refparts (va vb:Value) (m n:Nat) (w:World) (ha:Bits w va m) (hb:Bits w vb n) (hm:m<2^800) (hn0:0<n) (hn:n<2^800):
  Calls Tryz.prog 237 #[va,vb] w fun e w'=>∃v1 v2,e= .returned (.tuple #[v1,v2])/\Bits w' v1 (m/n)/\Bits w' v2 (m%n)/\Below w.heap.size w w':=by
 obtain⟨p,a,ca,rfl,_,_,_,hia,hda,hca,rfl⟩:=ha
 exact parts_w p a ca n vb w hia hb hda (canon_len hca hm) hn0 hn
theorem bits_len {w:World} {v:Value} {n:Nat} (h:Bits w v n):∃(p:Option Addr) (l:List Int) (cap:Nat),v= .slice p l.length cap/\(0<l.length↔0<n)/\l.length<=1000:=by
 obtain⟨p,l,cap,rfl,_,hl,_,_,hd,hc,rfl⟩:=h
 refine⟨p,l,cap,rfl,⟨fun h=>Nat.lt_of_lt_of_le (Nat.pos_of_ne_zero (by simp)) (canon_pos hc (by rintro rfl;simp at h)),fun h=> ?_⟩,hl⟩
 rcases Nat.eq_zero_or_pos l.length with h1|h1
 ·have:l= []:=List.length_eq_zero_iff.1 h1
  subst this
  simp[valD] at h
 ·exact h1
theorem c_refmade (b:Bool) (v:Value) (n:Nat) (w:World) (h:Bits w v n):
  Cb 238 #[.bool b,v] w (.agg #[.bool (b&&decide (0<n)),v]):=by
 obtain⟨p,l,cap,rfl,hp,hl⟩:=bits_len h
 replace hp:=Hd hp
 clear h
 go_enter Tryz.func238,Tryz.ntmps238
 cases b with
 |false=>
  go_wp2
  refine bodyPost_ret (v:= .agg #[.bool false,.slice p l.length cap]) (by simp[results,Tryz.results238,go_sem]) rfl ⟨rfl,(Below.refl _ _).alloc (Nat.le_refl _) _⟩
 |true=>
  go_wp2
  refine bodyPost_ret (v:= .agg #[.bool (decide (0<l.length)),.slice p l.length cap]) (by simp[results,Tryz.results238,go_sem]) rfl ⟨by simp[hp.out],(Below.refl _ _).alloc (Nat.le_refl _) _⟩
theorem valD_from {l:List Int} (h:Dig l) (f:Nat):valD (l.drop f)=valD l/2^f:=by
 rcases Nat.lt_or_ge l.length f with h1|h1
 ·rw[List.drop_eq_nil_of_le (by omega)]
  have:=valD_pow h (Nat.le_of_lt h1)
  rw[Nat.div_eq_of_lt this]
  rfl
 ·have e:=valD_split (l:=l) (k:=f) h1
  have hb:=valD_pow (h.take f) (k:=f) (by simp;omega)
  rw[e,Nat.add_mul_div_left _ _ (Nat.pow_pos (by omega)),Nat.div_eq_of_lt hb,Nat.zero_add]
theorem mod_step {x y P:Nat} (hy:y<2):(y+2*x)%(2*P)=y+2*(x%P):=by
 rcases Nat.eq_zero_or_pos P with rfl|hP
 ·simp
 ·have e:=Nat.div_add_mod x P
  have hm:=Nat.mod_lt x hP
  have:y+2*x=(y+2*(x%P))+2*P*(x/P):=by
   rw[Nat.mul_assoc]
   omega
  rw[this,Nat.add_mul_mod_self_left,Nat.mod_eq_of_lt (by omega)]
theorem word_step {l:List Int} {i k acc y:Nat} (hy:y<2) (hk:k<64) (hd:valD (l.drop i)=y+2*valD (l.drop (i+1))) (ha:acc=valD (l.drop (i+1))%2^(64-(k+1))):
  y+2*acc=valD (l.drop i)%2^(64-k):=by
 rw[hd,ha,show 64-k=(64-(k+1))+1 by omega,Nat.pow_succ,Nat.mul_comm (2^_) 2,mod_step hy]
def wordRel (w:World) (p:Option Addr) (l:List Int) (cap f:Nat) (a':Act) (W:World):Prop:=
 Below w.heap.size w W/\∃k acc:Nat,(∃u:Nat->Value,a'= {tmps:= #[.slice p l.length cap,.int .i64 (f:Int),u 2,u 3,u 4,.int .u64 (acc:Int),.int .i64 (((f+k:Nat):Int)-1),u 7,u 8,u 9,u 10,u 11,u 12,u 13,u 14,u 15,u 16,u 17,u 18,u 19,u 20,u 21,u 22,u 23,u 24,u 25,u 26,u 27,u 28,u 29],defers:= []})/\k<=64/\acc=valD (l.drop (f+k))%2^(64-k)
theorem word_w (p:Option Addr) (l:List Int) (cap f:Nat) (w:World) (hi:DigsIn w p l) (hd:Dig l) (hl:l.length<=1000) (hf:f<=64):
  Cb 244 #[.slice p l.length cap,.int .i64 (f:Int)] w (.int .u64 ((valD l/2^f%2^64:Nat):Int)):=by
 go_enter Tryz.func244,Tryz.ntmps244
 go_wp2
 refine wp_loop (wordRel w p l cap f) (fun a' _=>((intAt (a'.tmps.getD 6 undef))+1).toNat-f) ?_ ?_
 ·unfold wordRel
  refine⟨Below.refl _ _,64,0,?_,Nat.le_refl _,by simp[Nat.mod_one]⟩
  rw[show ((f+64:Nat):Int)-1=(f:Int)+63 by omega]
  exact frame_ex rfl
 ·rintro a' W ⟨hW,k,acc,⟨u,rfl⟩,hk,hacc⟩
  have hz:=hW.size
  replace hacc:=Hd hacc
  cases k with
  |zero=>
   rw[show ((f+0:Nat):Int)-1=(f:Int)-1 by omega]
   have hres:=Hd (show ((valD l/2^f%2^64:Nat):Int)=(acc:Int) by rw[hacc.out,<-valD_from hd];rfl)
   go_wp2
   go_ret
   exact⟨by rw[hres.out];rfl,hW⟩
  |succ k=>
   obtain⟨I,hI⟩:∃I,I=f+k:=⟨_,rfl⟩
   rw[show ((f+(k+1):Nat):Int)-1=(I:Int) by omega]
   have hge:f<=I:=by omega
   have hIl:I<=200:=by omega
   have hE:=Hd hI
   have hacc2:=Hd (show acc=valD (l.drop (I+1))%2^(64-(k+1)) by rw[hacc.out,hE.out];rfl)
   have hab:acc<9223372036854775808:=by
    rw[hacc2.out]
    exact Nat.lt_of_lt_of_le (Nat.mod_lt _ (Nat.pow_pos (by omega))) (Nat.pow_le_pow_right (n:=2) (by omega) (show 64-(k+1)<=63 by omega))
   clear hI hacc
   by_cases hlt:I<l.length
   ·obtain⟨y,hy⟩:∃y,l[I]? =some y:=⟨l[I],List.getElem?_eq_getElem hlt⟩
    obtain⟨g,o,rfl,q⟩:=(hi.below hW).at' _ y hy
    have hs:=Hd (valD_drop hy)
    have by01:=hd.at hy
    clear hy
    rcases by01 with rfl|rfl
    ·have hn:=Hd (word_step (y:=0) (k:=k) (by omega) (by omega) hs.out hacc2.out)
     go_wp2
     refine⟨?_,by simp[intAt];omega⟩
     rw[hE.out,show (acc:Int)*2=((0+2*acc:Nat):Int) by omega]
     unfold wordRel
     exact⟨hW,k,0+2*acc,frame_ex rfl,by omega,by rw[hn.out,hE.out]⟩
    ·have hn:=Hd (word_step (y:=1) (k:=k) (by omega) (by omega) hs.out hacc2.out)
     go_wp2
     refine⟨?_,by simp[intAt];omega⟩
     rw[hE.out,show (acc:Int)*2+1=((1+2*acc:Nat):Int) by omega]
     unfold wordRel
     exact⟨hW,k,1+2*acc,frame_ex rfl,by omega,by rw[hn.out,hE.out]⟩
   ·have hs:=Hd (show valD (l.drop I)=0+2*valD (l.drop (I+1)) by rw[List.drop_eq_nil_of_le (by omega),List.drop_eq_nil_of_le (by omega)];rfl)
    have hn:=Hd (word_step (y:=0) (k:=k) (by omega) (by omega) hs.out hacc2.out)
    go_wp2
    refine⟨?_,by simp[intAt];omega⟩
    rw[hE.out,show (acc:Int)*2=((0+2*acc:Nat):Int) by omega]
    unfold wordRel
    exact⟨hW,k,0+2*acc,frame_ex rfl,by omega,by rw[hn.out,hE.out]⟩
theorem c_word (v:Value) (n f:Nat) (w:World) (h:Bits w v n) (hf:f<=64):
  Cb 244 #[v,.int .i64 (f:Int)] w (.int .u64 ((n/2^f%2^64:Nat):Int)):=by
 obtain⟨p,l,cap,rfl,_,hl,_,hi,hd,_,rfl⟩:=h
 exact word_w p l cap f w hi hd hl hf
def NumIs (w:World) (v:Value) (z:Int):Prop:=∃sz,v= .agg #[.bool (decide (z<0)),sz]/\Bits w sz z.natAbs
theorem NumIs.below {w w':World} {v:Value} {z:Int} (h:NumIs w v z) (hb:Below w.heap.size w w'):NumIs w' v z:=by
 obtain⟨sz,h1,h2⟩:=h
 exact⟨sz,h1,h2.below hb⟩
theorem NumIs.rex {L:List Nat} {w w':World} {v:Value} {z:Int} (h:NumIs w v z) (hr:Rex L w w') (hL:L= []):NumIs w' v z:=by subst hL;exact h.below hr.below
theorem NumIs.drew {w:World} {v:Value} {z:Int} (h:NumIs w v z):NumIs w.drew v z:=by
 obtain⟨sz,h1,h2⟩:=h
 exact⟨sz,h1,h2.drew⟩
theorem ty_setCell {w:World} {a:Addr} {cur:Array Value} {T:TypeId} {fz:Nat×Nat} (h:w.heap[a.block]? =some (.cells cur T fz)) (v:Value):∃cur' fz',(w.setCell a v).heap[a.block]? =some (.cells cur' T fz'):=by
 simp only[World.setCell,Array.getElem?_modify]
 rw[if_pos trivial,h]
 exact⟨_,_,rfl⟩
theorem DigsIn.set {w:World} {p:Option Addr} {l:List Int} (h:DigsIn w p l) {a:Addr} {u:Value} (ha:w.cell? a=some u) (hu:∀x,u≠ .int .i64 x) (v:Value):DigsIn (w.setCell a v) p l:=⟨fun i x hx=>by
 obtain⟨b,o,e,hc⟩:=h.at' i x hx
 refine⟨b,o,e,?_⟩
 rw[World.cell?_setCell_other]
 ·exact hc
 ·rintro rfl
  rw[hc] at ha
  cases ha
  exact hu x rfl,fun b e=>by
 obtain⟨cur,fz,hh⟩:=h.typ b e
 by_cases hb:b.block=a.block
 ·rw[hb] at hh⊢
  exact ty_setCell hh v
 ·exact⟨cur,fz,(heap_setCell_other w a b.block v hb).trans hh⟩⟩
theorem Bits.set {w:World} {v:Value} {n:Nat} (h:Bits w v n) {a:Addr} {u:Value} (ha:w.cell? a=some u) (hu:∀x,u≠ .int .i64 x) (v1:Value):Bits (w.setCell a v1) v n:=by
 obtain⟨p,l,cap,h1,h2,h3,h4,h5,h6⟩:=h
 exact⟨p,l,cap,h1,h2,h3,h4,h5.set ha hu v1,h6⟩
theorem Bits.store {w:World} {v:Value} {n g c d:Nat} {b:Bool} {p:Option Addr} {T:TypeId} (h:Bits w v n) (hb:Blk w g #[.bool b,.slice p c d] T) (v0 v1:Value):
  Bits ((w.setCell ⟨g,0,none⟩ v0).setCell ⟨g,1,none⟩ v1) v n:=by
 refine(h.set (hb.cell 0) (by intro x e;cases e) v0).set ((hb.set 0 v0).cell 1) (u:= .slice p c d) ?_ v1
 intro x e
 cases e
theorem c_refInt (n:Int) (w:World) (h1: -9223372036854775808<=n) (h2:n<=9223372036854775807):
  Calls Tryz.prog 195 #[.int .i64 n] w fun e w'=>∃v,e= .returned v/\NumIs w' v n/\Below w.heap.size w w':=by
 by_cases hneg:n<0
 ·obtain⟨m,rfl⟩:∃m:Nat,n= -(m:Int):=⟨n.natAbs,by omega⟩
  obtain⟨s,hs⟩:∃s:Nat,s=18446744073709551616-m:=⟨_,rfl⟩
  have hs1:((s:Nat):Int)=18446744073709551616-(m:Int):=by omega
  have cS:=fun W=>c_Size s W (by omega)
  have hw:=Hd (show IntKind.u64.wrap (-(m:Int))=((s:Nat):Int) by simp[IntKind.wrap,IntKind.signed,IntKind.bits];omega)
  have hm0:0<m:=by omega
  replace hs1:=Hd hs1
  clear hs
  go_enter Tryz.func195,Tryz.ntmps195
  go_wp2_with fail
  rw[hw.out]
  go_wp2_with fail
  refine(cS _).mono ?_
  rintro e w1 ⟨v1,rfl,hq1,hb1⟩
  have z2:=hb1.size
  try simp at z2
  refine haveB w w1 (Bc w.heap.size #[.bool false,.slice none 0 0] 206<|Bz) ?_
  rintro hW z3 ⟨⟨b1,yb1,k1,f1⟩,-⟩
  obtain⟨p1,l1,k1',rfl,_,hl1⟩:=bits_len hq1
  replace hq1:=Hd hq1
  go_wp2_with fail
  refine(c_power 64 _ (by omega)).mono ?_
  rintro e w4 ⟨v2,rfl,hq2,hb4⟩
  have z5:=hb4.size
  try simp at z5
  clear k1 f1
  refine haveB w w4 (Bc w.heap.size #[.bool false,.slice none 0 0] 206<|Bz) ?_
  clear b1 hW
  rintro hW z6 ⟨⟨b1,yb1,k1,f1⟩,-⟩
  replace hq2:=Hd hq2
  replace hq1:=Hd (hq1.out.below hb4)
  have cm:=Hd (c_minus _ _ (2^64) s w4 hq2.out hq1.out (pow_lt2 64 900 (by omega)) (by have:=hs1.out;omega))
  go_wp2_with fail
  refine(cm.out).mono ?_
  rintro e w7 ⟨v3,rfl,hq3,hb7⟩
  have z8:=hb7.size
  try simp at z8
  clear k1 f1
  refine haveB w w7 (Bc w.heap.size #[.bool false,.slice none 0 0] 206<|Bz) ?_
  clear b1 hW
  rintro hW z9 ⟨⟨b1,yb1,k1,f1⟩,-⟩
  obtain⟨p3,l3,k3',rfl,_,hl3⟩:=bits_len hq3
  rw[show 2^64-s=m by have:=hs1.out;omega] at hq3
  replace hq3:=Hd hq3
  go_wp2_with fail
  refine(c_refmade true _ m _ hq3.out).mono ?_
  rintro e w10 ⟨rfl,hb10⟩
  have z11:=hb10.size
  try simp at z11
  clear k1 f1
  refine haveB w w10 (Bc w.heap.size #[.bool false,.slice none 0 0] 206<|Bz) ?_
  clear b1 hW
  rintro hW z12 ⟨⟨b1,yb1,k1,f1⟩,-⟩
  replace hq3:=Hd (hq3.out.below hb10)
  go_wp2
  refine bodyPost_ret (v:= .agg #[.bool (true&&decide (0<m)),.slice p3 l3.length k3']) (by simp[results,Tryz.results195,go_sem,k1,f1,hm0]) rfl ⟨_,rfl,⟨.slice p3 l3.length k3',by simp[hm0],?_⟩,by exact belowAny⟩
  have hS:=hq3.out.store b1 (.bool (true&&decide (0<m))) (.slice p3 l3.length k3')
  simpa [hm0] using hS
 ·obtain⟨m,rfl⟩:∃m:Nat,n=(m:Int):=⟨n.toNat,by omega⟩
  have cS:=fun W=>c_Size m W (by omega)
  go_enter Tryz.func195,Tryz.ntmps195
  go_wp2_with fail
  refine(cS _).mono ?_
  rintro e w1 ⟨v1,rfl,hq1,hb1⟩
  have z2:=hb1.size
  try simp at z2
  refine haveB w w1 (Bc w.heap.size #[.bool false,.slice none 0 0] 206<|Bz) ?_
  rintro hW z3 ⟨⟨b1,yb1,k1,f1⟩,-⟩
  obtain⟨p1,l1,k1',rfl,_,hl1⟩:=bits_len hq1
  replace hq1:=Hd hq1
  go_wp2_with fail
  refine(c_refmade false _ m _ hq1.out).mono ?_
  rintro e w4 ⟨rfl,hb4⟩
  have z5:=hb4.size
  try simp at z5
  clear k1 f1
  refine haveB w w4 (Bc w.heap.size #[.bool false,.slice none 0 0] 206<|Bz) ?_
  clear b1 hW
  rintro hW z6 ⟨⟨b1,yb1,k1,f1⟩,-⟩
  replace hq1:=Hd (hq1.out.below hb4)
  go_wp2
  refine bodyPost_ret (v:= .agg #[.bool (false&&decide (0<m)),.slice p1 l1.length k1']) (by simp[results,Tryz.results195,go_sem,k1,f1]) rfl ⟨_,rfl,⟨.slice p1 l1.length k1',by simp,?_⟩,by exact belowAny⟩
  have hS:=hq1.out.store b1 (.bool (false&&decide (0<m))) (.slice p1 l1.length k1')
  simpa using hS
attribute [local simp] Oper.looksAt Op.operands Call.operands envOf Det GDet
def BS (n:Nat):Spec:=fun v w=>Bits w v n
theorem BS.closed (n:Nat):Closed [] (BS n):=fun _ _ _ hr h=>Bits.rex h hr rfl
theorem BS.below {n:Nat} {v:Value} {w w':World} (h:BS n v w) (hr:Below w.heap.size w w'):BS n v w':=Bits.below h hr
def NS (b:Bool) (n:Nat):Spec:=fun v w=>∃sz,v= .agg #[.bool (b&&decide (0<n)),sz]/\BS n sz w
theorem NS.closed (b:Bool) (n:Nat):Closed [] (NS b n):=fun _ _ _ hr ⟨sz,e,h⟩=>⟨sz,e,Bits.rex h hr rfl⟩
theorem mul_w (sa sb:Bool) (pa pb:Option Addr) (la ca lb cb m n:Nat) (w:World) (ha:Bits w (.slice pa la ca) m) (hb:Bits w (.slice pb lb cb) n) (hm:m<2^400) (hn:n<2^400):
  Calls Tryz.prog 202 #[.agg #[.bool sa,.slice pa la ca],.agg #[.bool sb,.slice pb lb cb]] w fun e w'=>∃sz,e= .returned (.agg #[.bool ((sa !=sb)&&decide (0<m*n)),sz])/\Bits w' sz (m*n)/\Below w.heap.size w w':=by
 go_enter Tryz.func202,Tryz.ntmps202
 go_upto_region 1 with(fail)
 refine wp_facts (fun W'=>Below w.heap.size w W'/\Blk W' w.heap.size #[.bool sa,.slice pa la ca] 206/\Blk W' (w.heap.size+1) #[.bool sb,.slice pb lb cb] 206/\Blk W' (w.heap.size+2) #[.bool false,.slice none 0 0] 206/\Bits W' (.slice pa la ca) m/\Bits W' (.slice pb lb cb) n) ⟨by exact belowAny,by exact blkAny,by exact blkAny,by exact blkAny,by exact ha.below belowAny,by exact hb.below belowAny⟩ ?_
 rintro W1 ⟨hW,b1,b2,b3,b4,b5⟩
 have z2:=hW.size
 have z3:=b1.lt
 have z4:=b2.lt
 have z5:=b3.lt
 refine wp_region_nd 11 16 [] (fun W'=>Rex [] W1 W'/\Blk W' w.heap.size #[.bool sa,.slice pa la ca] 206/\Blk W' (w.heap.size+1) #[.bool sb,.slice pb lb cb] 206/\Blk W' (w.heap.size+2) #[.bool false,.slice none 0 0] 206/\Bits W' (.slice pa la ca) m/\Bits W' (.slice pb lb cb) n) mixed (by kernel_rfl) rfl ⟨(Rex.refl _ _).drew,b1,b2,b3,b4.drew,b5.drew⟩ (fun w w' ⟨h0,h1,h2,h3,h4,h5⟩ hr=>⟨h0.trans hr,h1.rex hr (by simp<;>omega),h2.rex hr (by simp<;>omega),h3.rex hr (by simp<;>omega),h4.rex hr (by simp<;>omega),h5.rex hr (by simp<;>omega)⟩) (fun c a d v w h=>by cases d<;>exact h) ?_
 iterate 9
  apply nd_det (hg:=rfl) (hal:=rfl)
  ·intro a W' hC hE
   obtain⟨_,k1,k2,k3,k4,k5⟩:=hC
   have k1:=k1.cell
   have k2:=k2.cell
   first
    |(simp at hE;simp[go_sem,Act.eval,iw,hE,k1,k2,k3,k4,k5];try rfl)
    |(clear hE;simp[go_sem,Act.eval,iw,k1,k2,k3,k4,k5];try rfl)
 apply nd_call (BS (m*n)) (hg:=rfl) (hal:=rfl)
 ·exact BS.closed _
 ·intro a W' hC hE
  refine⟨_,_,?_,(c_times (.slice pa la ca) (.slice pb lb cb) m n W' hC.2.2.2.2.1 hC.2.2.2.2.2 hm hn).mono ?_⟩
  ·simp at hE
   simp[go_sem,Act.eval,hE]
   try rfl
  ·rintro e w' ⟨v,rfl,hB,hR⟩
   exact⟨_,rfl,hR,hB⟩
 apply nd_call (NS (sa !=sb) (m*n)) (hg:=rfl) (hal:=rfl)
 ·exact NS.closed _ _
 ·intro a W' hC hE
  simp at hE
  refine⟨_,_,?_,(c_refmade (sa !=sb) _ (m*n) W' hE.2).mono ?_⟩
  ·simp[go_sem,Act.eval,hE.1]
   try (cases sa<;>cases sb<;>rfl)
  ·rintro e w' ⟨rfl,hR⟩
   have hb:=BS.below hE.2 hR
   exact⟨_,rfl,hR,_,rfl,hb⟩
 rintro W2 ⟨hR,d1,d2,d3,d4,d5⟩
 simp only[ndFinR,Det,forall_eq]
 intros
 repeat (rename GDet _ _ _ _=>hgd;clear hgd)
 simp only[nS]
 clear b1 b2 b3 b4 b5
 have b1:=d1
 have b2:=d2
 have b3:=d3
 clear d1 d2 d3 d4 d5
 obtain⟨sz,rfl,hq⟩:= ‹NS _ _ _ _›
 obtain⟨p1,l1,k1',rfl,_,hl1⟩:=bits_len hq
 replace hq:=Hd hq
 replace hW:=hW.trans (hR.of_priv hW.size)
 clear hR
 have k1:=b1.cell
 have f1:=b1.frozen
 have k2:=b2.cell
 have f2:=b2.frozen
 have k3:=b3.cell
 have f3:=b3.frozen
 have y_1:=b1.lt
 have y_2:=b2.lt
 have y_3:=b3.lt
 obtain⟨B,hB⟩:∃B,B=((sa !=sb)&&decide (0<m*n)):=⟨_,rfl⟩
 rw[<-hB]
 replace hB:=Hd hB
 go_wp2
 refine bodyPost_ret (v:= .agg #[.bool B,.slice p1 l1.length k1']) (by simp[results,Tryz.results202,go_sem,k1,f1,k2,f2,k3,f3,y_1,y_2,y_3]) rfl ⟨_,by rw[hB.out],?_,by exact belowAny⟩
 have hS:=hq.out.store b3 (.bool B) (.slice p1 l1.length k1')
 simpa using hS
theorem num_shape {w:World} {v:Value} {z:Int} (h:NumIs w v z):∃p l c,v= .agg #[.bool (decide (z<0)),.slice p l c]/\Bits w (.slice p l c) z.natAbs:=by
 obtain⟨sz,rfl,h⟩:=h
 obtain⟨p,l,cap,rfl,_⟩:=bits_len h
 exact⟨_,_,_,rfl,h⟩
theorem c_refMul (va vb:Value) (x y:Int) (w:World) (ha:NumIs w va x) (hb:NumIs w vb y) (hx:x.natAbs<2^400) (hy:y.natAbs<2^400):
  Calls Tryz.prog 202 #[va,vb] w fun e w'=>∃v,e= .returned v/\NumIs w' v (x*y)/\Below w.heap.size w w':=by
 obtain⟨pa,la,ca,rfl,ha'⟩:=num_shape ha
 obtain⟨pb,lb,cb,rfl,hb'⟩:=num_shape hb
 refine(mul_w _ _ pa pb la ca lb cb _ _ w ha' hb' hx hy).mono ?_
 rintro e w' ⟨sz,rfl,h,hB⟩
 rw[<-Int.natAbs_mul] at h
 refine⟨_,rfl,⟨sz,?_,h⟩,hB⟩
 congr 3
 rw[<-Int.natAbs_mul]
 rcases Int.lt_trichotomy x 0 with h1|rfl|h1
 ·rcases Int.lt_trichotomy y 0 with h2|rfl|h2
  ·have:=Int.mul_pos_of_neg_of_neg h1 h2
   simp[h1,h2];omega
  ·simp
  ·have:=Int.mul_neg_of_neg_of_pos h1 h2
   have h3:¬y<0:=by omega
   have h6:0<(x*y).natAbs:=by omega
   rw[decide_eq_true h1,decide_eq_false h3,decide_eq_true h6,decide_eq_true this];rfl
 ·simp
 ·have h3:¬x<0:=by omega
  rcases Int.lt_trichotomy y 0 with h2|rfl|h2
  ·have:=Int.mul_neg_of_pos_of_neg h1 h2
   have h6:0<(x*y).natAbs:=by omega
   rw[decide_eq_false h3,decide_eq_true h2,decide_eq_true h6,decide_eq_true this];rfl
  ·simp
  ·have:=Int.mul_pos h1 h2
   have h4:¬y<0:=by omega
   simp[h3,h4];omega
theorem fits_neg (pa:Option Addr) (la ca m k:Nat) (w:World) (ha:Bits w (.slice pa la ca) m) (hm9:m<2^900) (hk:k<=890) (hk9:2^k<2^900) (e1:((k+1:Nat):Int)-1=(k:Int)) (e2:wrap64 (k:Int)=k):
  Cb 243 #[.agg #[.bool true,.slice pa la ca],.int .i64 ((k+1:Nat):Int)] w (.bool (!decide (2^k<m))):=by
 have H_e1:=Hd e1
 clear e1
 have H_e2:=Hd e2
 clear e2
 go_enter Tryz.func243,Tryz.ntmps243
 go_upto_region 2 with(fail)
 refine wp_facts (fun W'=>Below w.heap.size w W'/\Blk W' w.heap.size #[.bool true,.slice pa la ca] 206/\Bits W' (.slice pa la ca) m) ⟨by exact belowAny,by exact blkAny,by exact ha.below belowAny⟩ ?_
 rintro W1 ⟨hW,b1,b2⟩
 have z2:=hW.size
 have z3:=b1.lt
 have e1:=H_e1.out
 have e2:=H_e2.out
 refine wp_region_nd 7 20 [] (fun W'=>Rex [] W1 W'/\Blk W' w.heap.size #[.bool true,.slice pa la ca] 206/\Bits W' (.slice pa la ca) m) mixed (by kernel_rfl) rfl ⟨(Rex.refl _ _).drew,b1,b2.drew⟩ (fun w w' ⟨h0,h1,h2⟩ hr=>⟨h0.trans hr,h1.rex hr (by simp<;>omega),h2.rex hr (by simp<;>omega)⟩) (fun c a d v w h=>by cases d<;>exact h) ?_
 iterate 2
  apply nd_det (hg:=rfl) (hal:=rfl)
  ·intro a W' hC hE
   obtain⟨_,k1,k2⟩:=hC
   have k1:=k1.cell
   first
    |(simp at hE;simp[go_sem,Act.eval,iw,hE,k1,k2,e1,e2];try rfl)
    |(clear hE;simp[go_sem,Act.eval,iw,k1,k2,e1,e2];try rfl)
 apply nd_call (BS (2^k)) (hg:=rfl) (hal:=rfl)
 ·exact BS.closed _
 ·intro a W' hC hE
  refine⟨_,_,?_,(c_power k W' (by omega)).mono ?_⟩
  ·simp at hE
   simp[go_sem,Act.eval,hE,e2]
   try rfl
  ·rintro e w' ⟨v,rfl,hB,hR⟩
   exact⟨_,rfl,hR,hB⟩
 iterate 2
  apply nd_det (hg:=rfl) (hal:=rfl)
  ·intro a W' hC hE
   obtain⟨_,k1,k2⟩:=hC
   have k1:=k1.cell
   first
    |(simp at hE;simp[go_sem,Act.eval,iw,hE,k1,k2,e1,e2];try rfl)
    |(clear hE;simp[go_sem,Act.eval,iw,k1,k2,e1,e2];try rfl)
 apply nd_call (Det (.bool (decide (2^k<m)))) (hg:=rfl) (hal:=rfl)
 ·exact closed_det _ _
 ·intro a W' hC hE
  simp at hE
  refine⟨_,_,?_,(c_less _ (.slice pa la ca) (2^k) m W' hE.1 hC.2.2 hk9 hm9).mono ?_⟩
  ·simp[go_sem,Act.eval,hE.2]
   try rfl
  ·rintro e w' ⟨rfl,hR⟩
   exact⟨_,rfl,hR,rfl⟩
 iterate 1
  apply nd_det (hg:=rfl) (hal:=rfl)
  ·intro a W' hC hE
   obtain⟨_,k1,k2⟩:=hC
   have k1:=k1.cell
   first
    |(simp at hE;simp[go_sem,Act.eval,iw,hE,k1,k2,e1,e2];try rfl)
    |(clear hE;simp[go_sem,Act.eval,iw,k1,k2,e1,e2];try rfl)
 rintro W2 ⟨hR,d1,d2⟩
 simp only[ndFinR,Det,forall_eq]
 intros
 repeat (rename GDet _ _ _ _=>hgd;clear hgd)
 simp only[nS]
 clear b1 b2 e1 e2 d2
 have b1:=d1
 clear d1
 replace hW:=hW.trans (hR.of_priv hW.size)
 clear hR
 have k1:=b1.cell
 have f1:=b1.frozen
 go_wp2
 go_ret
 exact⟨rfl,hW⟩
theorem fits_pos (pa:Option Addr) (la ca m k:Nat) (w:World) (ha:Bits w (.slice pa la ca) m) (hm9:m<2^900) (hk:k<=890) (hk9:2^k<2^900) (e1:((k+1:Nat):Int)-1=(k:Int)) (e2:wrap64 (k:Int)=k):
  Cb 243 #[.agg #[.bool false,.slice pa la ca],.int .i64 ((k+1:Nat):Int)] w (.bool (decide (m<2^k))):=by
 have H_e1:=Hd e1
 clear e1
 have H_e2:=Hd e2
 clear e2
 go_enter Tryz.func243,Tryz.ntmps243
 go_upto_region 3 with(fail)
 refine wp_facts (fun W'=>Below w.heap.size w W'/\Blk W' w.heap.size #[.bool false,.slice pa la ca] 206/\Bits W' (.slice pa la ca) m) ⟨by exact belowAny,by exact blkAny,by exact ha.below belowAny⟩ ?_
 rintro W1 ⟨hW,b1,b2⟩
 have z2:=hW.size
 have z3:=b1.lt
 have e1:=H_e1.out
 have e2:=H_e2.out
 refine wp_region_nd 6 20 [] (fun W'=>Rex [] W1 W'/\Blk W' w.heap.size #[.bool false,.slice pa la ca] 206/\Bits W' (.slice pa la ca) m) mixed (by kernel_rfl) rfl ⟨(Rex.refl _ _).drew,b1,b2.drew⟩ (fun w w' ⟨h0,h1,h2⟩ hr=>⟨h0.trans hr,h1.rex hr (by simp<;>omega),h2.rex hr (by simp<;>omega)⟩) (fun c a d v w h=>by cases d<;>exact h) ?_
 iterate 4
  apply nd_det (hg:=rfl) (hal:=rfl)
  ·intro a W' hC hE
   obtain⟨_,k1,k2⟩:=hC
   have k1:=k1.cell
   first
    |(simp at hE;simp[go_sem,Act.eval,iw,hE,k1,k2,e1,e2];try rfl)
    |(clear hE;simp[go_sem,Act.eval,iw,k1,k2,e1,e2];try rfl)
 apply nd_call (BS (2^k)) (hg:=rfl) (hal:=rfl)
 ·exact BS.closed _
 ·intro a W' hC hE
  refine⟨_,_,?_,(c_power k W' (by omega)).mono ?_⟩
  ·simp at hE
   simp[go_sem,Act.eval,hE,e2]
   try rfl
  ·rintro e w' ⟨v,rfl,hB,hR⟩
   exact⟨_,rfl,hR,hB⟩
 apply nd_call (Det (.bool (decide (m<2^k)))) (hg:=rfl) (hal:=rfl)
 ·exact closed_det _ _
 ·intro a W' hC hE
  simp at hE
  refine⟨_,_,?_,(c_less (.slice pa la ca) _ m (2^k) W' hC.2.2 hE.2 hm9 hk9).mono ?_⟩
  ·simp[go_sem,Act.eval,hE.1]
   try rfl
  ·rintro e w' ⟨rfl,hR⟩
   exact⟨_,rfl,hR,rfl⟩
 rintro W2 ⟨hR,d1,d2⟩
 simp only[ndFinR,Det,forall_eq]
 intros
 repeat (rename GDet _ _ _ _=>hgd;clear hgd)
 simp only[nS]
 clear b1 b2 e1 e2 d2
 have b1:=d1
 clear d1
 replace hW:=hW.trans (hR.of_priv hW.size)
 clear hR
 have k1:=b1.cell
 have f1:=b1.frozen
 go_wp2
 go_ret
 exact⟨rfl,hW⟩
theorem c_refFits (va:Value) (z:Int) (k:Nat) (w:World) (h:NumIs w va z) (hz:z.natAbs<2^900) (hk:k<=890):
  Calls Tryz.prog 243 #[va,.int .i64 ((k+1:Nat):Int)] w fun e w'=>e= .returned (.bool (decide (-((2^k:Nat):Int)<=z/\z<((2^k:Nat):Int))))/\Below w.heap.size w w':=by
 obtain⟨pa,la,ca,rfl,h'⟩:=num_shape h
 have hk9:2^k<2^900:=pow_lt2 k 900 (by omega)
 have e1:((k+1:Nat):Int)-1=(k:Int):=by omega
 have e2:wrap64 (k:Int)=k:=by simp[wrap64];omega
 by_cases hn:z<0
 ·rw[decide_eq_true hn]
  refine(fits_neg pa la ca z.natAbs k w h' hz hk hk9 e1 e2).mono ?_
  rintro e w' ⟨rfl,hB⟩
  refine⟨?_,hB⟩
  congr 2
  generalize 2^k=P at*
  rcases Nat.lt_or_ge P z.natAbs with h3|h3
  ·rw[decide_eq_true h3,decide_eq_false (by omega)];rfl
  ·rw[decide_eq_false (by omega),decide_eq_true (by omega)];rfl
 ·rw[decide_eq_false hn]
  refine(fits_pos pa la ca z.natAbs k w h' hz hk hk9 e1 e2).mono ?_
  rintro e w' ⟨rfl,hB⟩
  refine⟨?_,hB⟩
  congr 2
  generalize 2^k=P at*
  exact decide_eq_decide.2 ⟨fun h4=>by omega,fun h4=>by omega⟩
theorem add_same (sa:Bool) (pa pb:Option Addr) (la ca lb cb m n:Nat) (w:World) (ha:Bits w (.slice pa la ca) m) (hb:Bits w (.slice pb lb cb) n) (hm:m<2^900) (hn:n<2^900):
  Calls Tryz.prog 199 #[.agg #[.bool sa,.slice pa la ca],.agg #[.bool (sa),.slice pb lb cb]] w fun e w'=>∃sz,e= .returned (.agg #[.bool ((sa)&&decide (0<m+n)),sz])/\Bits w' sz (m+n)/\Below w.heap.size w w':=by
 go_enter Tryz.func199,Tryz.ntmps199
 go_upto_region 2 with(fail)
 refine wp_facts (fun W'=>Below w.heap.size w W'/\Blk W' w.heap.size #[.bool sa,.slice pa la ca] 206/\Blk W' (w.heap.size+1) #[.bool sa,.slice pb lb cb] 206/\Blk W' (w.heap.size+2) #[.bool false,.slice none 0 0] 206/\Bits W' (.slice pa la ca) m/\Bits W' (.slice pb lb cb) n) ⟨by exact belowAny,by exact blkAny,by exact blkAny,by exact blkAny,by exact ha.below belowAny,by exact hb.below belowAny⟩ ?_
 rintro W1 ⟨hW,b1,b2,b3,b4,b5⟩
 have z2:=hW.size
 have z3:=b1.lt
 have z4:=b2.lt
 have z5:=b3.lt
 refine wp_region_nd 8 39 [] (fun W'=>Rex [] W1 W'/\Blk W' w.heap.size #[.bool sa,.slice pa la ca] 206/\Blk W' (w.heap.size+1) #[.bool sa,.slice pb lb cb] 206/\Blk W' (w.heap.size+2) #[.bool false,.slice none 0 0] 206/\Bits W' (.slice pa la ca) m/\Bits W' (.slice pb lb cb) n) mixed (by kernel_rfl) rfl ⟨(Rex.refl _ _).drew,b1,b2,b3,b4.drew,b5.drew⟩ (fun w w' ⟨h0,h1,h2,h3,h4,h5⟩ hr=>⟨h0.trans hr,h1.rex hr (by simp<;>omega),h2.rex hr (by simp<;>omega),h3.rex hr (by simp<;>omega),h4.rex hr (by simp<;>omega),h5.rex hr (by simp<;>omega)⟩) (fun c a d v w h=>by cases d<;>exact h) ?_
 iterate 6
  apply nd_det (hg:=rfl) (hal:=rfl)
  ·intro a W' hC hE
   obtain⟨_,k1,k2,k3,k4,k5⟩:=hC
   have k1:=k1.cell
   have k2:=k2.cell
   first
    |(simp at hE;simp[go_sem,Act.eval,iw,hE,k1,k2,k3,k4,k5];try rfl)
    |(clear hE;simp[go_sem,Act.eval,iw,k1,k2,k3,k4,k5];try rfl)
 apply nd_call (BS (m+n)) (hg:=rfl) (hal:=rfl)
 ·exact BS.closed _
 ·intro a W' hC hE
  refine⟨_,_,?_,(c_plus (.slice pa la ca) (.slice pb lb cb) m n W' hC.2.2.2.2.1 hC.2.2.2.2.2 hm hn).mono ?_⟩
  ·simp at hE
   simp[go_sem,Act.eval,hE]
   try rfl
  ·rintro e w' ⟨v,rfl,hB,hR⟩
   exact⟨_,rfl,hR,hB⟩
 apply nd_call (NS sa (m+n)) (hg:=rfl) (hal:=rfl)
 ·exact NS.closed _ _
 ·intro a W' hC hE
  simp at hE
  refine⟨_,_,?_,(c_refmade sa _ (m+n) W' hE.2).mono ?_⟩
  ·simp[go_sem,Act.eval,hE.1]
   try rfl
  ·rintro e w' ⟨rfl,hR⟩
   have hb:=BS.below hE.2 hR
   exact⟨_,rfl,hR,_,rfl,hb⟩
 rintro W2 ⟨hR,d1,d2,d3,d4,d5⟩
 simp only[ndFinR,Det,forall_eq]
 intros
 repeat (rename GDet _ _ _ _=>hgd;clear hgd)
 simp only[nS]
 clear b1 b2 b3 b4 b5
 have b1:=d1
 have b2:=d2
 have b3:=d3
 clear d1 d2 d3 d4 d5
 obtain⟨sz,rfl,hq⟩:= ‹NS _ _ _ _›
 obtain⟨p1,l1,k1',rfl,_,hl1⟩:=bits_len hq
 replace hq:=Hd hq
 replace hW:=hW.trans (hR.of_priv hW.size)
 clear hR
 have k1:=b1.cell
 have f1:=b1.frozen
 have k2:=b2.cell
 have f2:=b2.frozen
 have k3:=b3.cell
 have f3:=b3.frozen
 have y_1:=b1.lt
 have y_2:=b2.lt
 have y_3:=b3.lt
 obtain⟨B,hB⟩:∃B,B=(sa&&decide (0<(m+n))):=⟨_,rfl⟩
 rw[<-hB]
 replace hB:=Hd hB
 go_wp2
 refine bodyPost_ret (v:= .agg #[.bool B,.slice p1 l1.length k1']) (by simp[results,Tryz.results199,go_sem,k1,f1,k2,f2,k3,f3,y_1,y_2,y_3]) rfl ⟨_,by rw[hB.out],?_,by exact belowAny⟩
 have hS:=hq.out.store b3 (.bool B) (.slice p1 l1.length k1')
 simpa using hS
theorem add_less (sa:Bool) (pa pb:Option Addr) (la ca lb cb m n:Nat) (w:World) (ha:Bits w (.slice pa la ca) m) (hb:Bits w (.slice pb lb cb) n) (hm:m<2^900) (hn:n<2^900) (hle:m<=n) (e1:decide (m<n)=true):
  Calls Tryz.prog 199 #[.agg #[.bool sa,.slice pa la ca],.agg #[.bool (!sa),.slice pb lb cb]] w fun e w'=>∃sz,e= .returned (.agg #[.bool ((!sa)&&decide (0<n-m)),sz])/\Bits w' sz (n-m)/\Below w.heap.size w w':=by
 have H_e1:=Hd e1
 clear e1
 go_enter Tryz.func199,Tryz.ntmps199
 go_wp2_with fail
 refine(c_less (.slice pa la ca) (.slice pb lb cb) m n _ (ha.below belowAny) (hb.below belowAny) hm hn).mono ?_
 rintro e w1 ⟨rfl,hb1⟩
 have z2:=hb1.size
 try simp at z2
 have b1:Blk w1 w.heap.size #[.bool sa,.slice pa la ca] 206:=blkAny
 have b2:Blk w1 (w.heap.size+1) #[.bool (!sa),.slice pb lb cb] 206:=blkAny
 have b3:Blk w1 (w.heap.size+2) #[.bool false,.slice none 0 0] 206:=blkAny
 have hW:Below w.heap.size w w1:=belowAny
 have z3:=b1.lt
 have z4:=b2.lt
 have z5:=b3.lt
 clear hb1
 have k1:=b1.cell
 have f1:=b1.frozen
 have k2:=b2.cell
 have f2:=b2.frozen
 have k3:=b3.cell
 have f3:=b3.frozen
 rw[H_e1.out]
 go_upto_region 4 with(fail)
 clear k1 f1 k2 f2 k3 f3
 refine wp_facts (fun W'=>Below w.heap.size w W'/\Blk W' w.heap.size #[.bool sa,.slice pa la ca] 206/\Blk W' (w.heap.size+1) #[.bool (!sa),.slice pb lb cb] 206/\Blk W' (w.heap.size+2) #[.bool false,.slice none 0 0] 206/\Bits W' (.slice pa la ca) m/\Bits W' (.slice pb lb cb) n) ⟨by exact belowAny,by exact blkAny,by exact blkAny,by exact blkAny,by exact ha.below belowAny,by exact hb.below belowAny⟩ ?_
 clear b1 b2 b3 hW
 rintro W6 ⟨hW,b1,b2,b3,b4,b5⟩
 have z7:=hW.size
 have z8:=b1.lt
 have z9:=b2.lt
 have z10:=b3.lt
 refine wp_region_nd 8 39 [] (fun W'=>Rex [] W6 W'/\Blk W' w.heap.size #[.bool sa,.slice pa la ca] 206/\Blk W' (w.heap.size+1) #[.bool (!sa),.slice pb lb cb] 206/\Blk W' (w.heap.size+2) #[.bool false,.slice none 0 0] 206/\Bits W' (.slice pa la ca) m/\Bits W' (.slice pb lb cb) n) mixed (by kernel_rfl) rfl ⟨(Rex.refl _ _).drew,b1,b2,b3,b4.drew,b5.drew⟩ (fun w w' ⟨h0,h1,h2,h3,h4,h5⟩ hr=>⟨h0.trans hr,h1.rex hr (by simp<;>omega),h2.rex hr (by simp<;>omega),h3.rex hr (by simp<;>omega),h4.rex hr (by simp<;>omega),h5.rex hr (by simp<;>omega)⟩) (fun c a d v w h=>by cases d<;>exact h) ?_
 iterate 6
  apply nd_det (hg:=rfl) (hal:=rfl)
  ·intro a W' hC hE
   obtain⟨_,k1,k2,k3,k4,k5⟩:=hC
   have k1:=k1.cell
   have k2:=k2.cell
   first
    |(simp at hE;simp[go_sem,Act.eval,iw,hE,k1,k2,k3,k4,k5];try rfl)
    |(clear hE;simp[go_sem,Act.eval,iw,k1,k2,k3,k4,k5];try rfl)
 apply nd_call (BS (n-m)) (hg:=rfl) (hal:=rfl)
 ·exact BS.closed _
 ·intro a W' hC hE
  refine⟨_,_,?_,(c_minus (.slice pb lb cb) (.slice pa la ca) n m W' hC.2.2.2.2.2 hC.2.2.2.2.1 hn hle).mono ?_⟩
  ·simp at hE
   simp[go_sem,Act.eval,hE]
   try rfl
  ·rintro e w' ⟨v,rfl,hB,hR⟩
   exact⟨_,rfl,hR,hB⟩
 apply nd_call (NS (!sa) (n-m)) (hg:=rfl) (hal:=rfl)
 ·exact NS.closed _ _
 ·intro a W' hC hE
  simp at hE
  refine⟨_,_,?_,(c_refmade (!sa) _ (n-m) W' hE.2).mono ?_⟩
  ·simp[go_sem,Act.eval,hE.1]
   try rfl
  ·rintro e w' ⟨rfl,hR⟩
   have hb:=BS.below hE.2 hR
   exact⟨_,rfl,hR,_,rfl,hb⟩
 rintro W2 ⟨hR,d1,d2,d3,d4,d5⟩
 simp only[ndFinR,Det,forall_eq]
 intros
 repeat (rename GDet _ _ _ _=>hgd;clear hgd)
 simp only[nS]
 clear b1 b2 b3 b4 b5
 have b1:=d1
 have b2:=d2
 have b3:=d3
 clear d1 d2 d3 d4 d5
 obtain⟨sz,rfl,hq⟩:= ‹NS _ _ _ _›
 obtain⟨p1,l1,k1',rfl,_,hl1⟩:=bits_len hq
 replace hq:=Hd hq
 replace hW:=hW.trans (hR.of_priv hW.size)
 clear hR
 have k1:=b1.cell
 have f1:=b1.frozen
 have k2:=b2.cell
 have f2:=b2.frozen
 have k3:=b3.cell
 have f3:=b3.frozen
 have y_1:=b1.lt
 have y_2:=b2.lt
 have y_3:=b3.lt
 obtain⟨B,hB⟩:∃B,B=((!sa)&&decide (0<(n-m))):=⟨_,rfl⟩
 rw[<-hB]
 replace hB:=Hd hB
 go_wp2
 refine bodyPost_ret (v:= .agg #[.bool B,.slice p1 l1.length k1']) (by simp[results,Tryz.results199,go_sem,k1,f1,k2,f2,k3,f3,y_1,y_2,y_3]) rfl ⟨_,by rw[hB.out],?_,by exact belowAny⟩
 have hS:=hq.out.store b3 (.bool B) (.slice p1 l1.length k1')
 simpa using hS
theorem add_more (sa:Bool) (pa pb:Option Addr) (la ca lb cb m n:Nat) (w:World) (ha:Bits w (.slice pa la ca) m) (hb:Bits w (.slice pb lb cb) n) (hm:m<2^900) (hn:n<2^900) (hle:n<=m) (e1:decide (m<n)=false):
  Calls Tryz.prog 199 #[.agg #[.bool sa,.slice pa la ca],.agg #[.bool (!sa),.slice pb lb cb]] w fun e w'=>∃sz,e= .returned (.agg #[.bool ((sa)&&decide (0<m-n)),sz])/\Bits w' sz (m-n)/\Below w.heap.size w w':=by
 have H_e1:=Hd e1
 clear e1
 go_enter Tryz.func199,Tryz.ntmps199
 go_wp2_with fail
 refine(c_less (.slice pa la ca) (.slice pb lb cb) m n _ (ha.below belowAny) (hb.below belowAny) hm hn).mono ?_
 rintro e w1 ⟨rfl,hb1⟩
 have z2:=hb1.size
 try simp at z2
 have b1:Blk w1 w.heap.size #[.bool sa,.slice pa la ca] 206:=blkAny
 have b2:Blk w1 (w.heap.size+1) #[.bool (!sa),.slice pb lb cb] 206:=blkAny
 have b3:Blk w1 (w.heap.size+2) #[.bool false,.slice none 0 0] 206:=blkAny
 have hW:Below w.heap.size w w1:=belowAny
 have z3:=b1.lt
 have z4:=b2.lt
 have z5:=b3.lt
 clear hb1
 have k1:=b1.cell
 have f1:=b1.frozen
 have k2:=b2.cell
 have f2:=b2.frozen
 have k3:=b3.cell
 have f3:=b3.frozen
 rw[H_e1.out]
 go_upto_region 5 with(fail)
 clear k1 f1 k2 f2 k3 f3
 refine wp_facts (fun W'=>Below w.heap.size w W'/\Blk W' w.heap.size #[.bool sa,.slice pa la ca] 206/\Blk W' (w.heap.size+1) #[.bool (!sa),.slice pb lb cb] 206/\Blk W' (w.heap.size+2) #[.bool false,.slice none 0 0] 206/\Bits W' (.slice pa la ca) m/\Bits W' (.slice pb lb cb) n) ⟨by exact belowAny,by exact blkAny,by exact blkAny,by exact blkAny,by exact ha.below belowAny,by exact hb.below belowAny⟩ ?_
 clear b1 b2 b3 hW
 rintro W6 ⟨hW,b1,b2,b3,b4,b5⟩
 have z7:=hW.size
 have z8:=b1.lt
 have z9:=b2.lt
 have z10:=b3.lt
 refine wp_region_nd 8 39 [] (fun W'=>Rex [] W6 W'/\Blk W' w.heap.size #[.bool sa,.slice pa la ca] 206/\Blk W' (w.heap.size+1) #[.bool (!sa),.slice pb lb cb] 206/\Blk W' (w.heap.size+2) #[.bool false,.slice none 0 0] 206/\Bits W' (.slice pa la ca) m/\Bits W' (.slice pb lb cb) n) mixed (by kernel_rfl) rfl ⟨(Rex.refl _ _).drew,b1,b2,b3,b4.drew,b5.drew⟩ (fun w w' ⟨h0,h1,h2,h3,h4,h5⟩ hr=>⟨h0.trans hr,h1.rex hr (by simp<;>omega),h2.rex hr (by simp<;>omega),h3.rex hr (by simp<;>omega),h4.rex hr (by simp<;>omega),h5.rex hr (by simp<;>omega)⟩) (fun c a d v w h=>by cases d<;>exact h) ?_
 iterate 6
  apply nd_det (hg:=rfl) (hal:=rfl)
  ·intro a W' hC hE
   obtain⟨_,k1,k2,k3,k4,k5⟩:=hC
   have k1:=k1.cell
   have k2:=k2.cell
   first
    |(simp at hE;simp[go_sem,Act.eval,iw,hE,k1,k2,k3,k4,k5];try rfl)
    |(clear hE;simp[go_sem,Act.eval,iw,k1,k2,k3,k4,k5];try rfl)
 apply nd_call (BS (m-n)) (hg:=rfl) (hal:=rfl)
 ·exact BS.closed _
 ·intro a W' hC hE
  refine⟨_,_,?_,(c_minus (.slice pa la ca) (.slice pb lb cb) m n W' hC.2.2.2.2.1 hC.2.2.2.2.2 hm hle).mono ?_⟩
  ·simp at hE
   simp[go_sem,Act.eval,hE]
   try rfl
  ·rintro e w' ⟨v,rfl,hB,hR⟩
   exact⟨_,rfl,hR,hB⟩
 apply nd_call (NS sa (m-n)) (hg:=rfl) (hal:=rfl)
 ·exact NS.closed _ _
 ·intro a W' hC hE
  simp at hE
  refine⟨_,_,?_,(c_refmade sa _ (m-n) W' hE.2).mono ?_⟩
  ·simp[go_sem,Act.eval,hE.1]
   try rfl
  ·rintro e w' ⟨rfl,hR⟩
   have hb:=BS.below hE.2 hR
   exact⟨_,rfl,hR,_,rfl,hb⟩
 rintro W2 ⟨hR,d1,d2,d3,d4,d5⟩
 simp only[ndFinR,Det,forall_eq]
 intros
 repeat (rename GDet _ _ _ _=>hgd;clear hgd)
 simp only[nS]
 clear b1 b2 b3 b4 b5
 have b1:=d1
 have b2:=d2
 have b3:=d3
 clear d1 d2 d3 d4 d5
 obtain⟨sz,rfl,hq⟩:= ‹NS _ _ _ _›
 obtain⟨p1,l1,k1',rfl,_,hl1⟩:=bits_len hq
 replace hq:=Hd hq
 replace hW:=hW.trans (hR.of_priv hW.size)
 clear hR
 have k1:=b1.cell
 have f1:=b1.frozen
 have k2:=b2.cell
 have f2:=b2.frozen
 have k3:=b3.cell
 have f3:=b3.frozen
 have y_1:=b1.lt
 have y_2:=b2.lt
 have y_3:=b3.lt
 obtain⟨B,hB⟩:∃B,B=(sa&&decide (0<(m-n))):=⟨_,rfl⟩
 rw[<-hB]
 replace hB:=Hd hB
 go_wp2
 refine bodyPost_ret (v:= .agg #[.bool B,.slice p1 l1.length k1']) (by simp[results,Tryz.results199,go_sem,k1,f1,k2,f2,k3,f3,y_1,y_2,y_3]) rfl ⟨_,by rw[hB.out],?_,by exact belowAny⟩
 have hS:=hq.out.store b3 (.bool B) (.slice p1 l1.length k1')
 simpa using hS
theorem num_made {w:World} {sz:Value} {b:Bool} {k:Nat} {z:Int} (h:Bits w sz k) (hk:k=z.natAbs) (hb:(b&&decide (0<k))=decide (z<0)):NumIs w (.agg #[.bool (b&&decide (0<k)),sz]) z:=
 ⟨sz,by rw[hb],hk▸h⟩
theorem c_refAdd (va vb:Value) (x y:Int) (w:World) (ha:NumIs w va x) (hb:NumIs w vb y) (hx:x.natAbs<2^900) (hy:y.natAbs<2^900):
  Calls Tryz.prog 199 #[va,vb] w fun e w'=>∃v,e= .returned v/\NumIs w' v (x+y)/\Below w.heap.size w w':=by
 obtain⟨pa,la,ca,rfl,ha'⟩:=num_shape ha
 obtain⟨pb,lb,cb,rfl,hb'⟩:=num_shape hb
 by_cases hs:decide (x<0)=decide (y<0)
 ·rw[<-hs]
  refine(add_same _ pa pb la ca lb cb _ _ w ha' hb' hx hy).mono ?_
  rintro e w' ⟨sz,rfl,h,hB⟩
  refine⟨_,rfl,num_made h ?_ ?_,hB⟩
  ·by_cases h1:x<0<;>by_cases h2:y<0<;>simp[h1,h2] at hs<;>omega
  ·by_cases h1:x<0<;>by_cases h2:y<0<;>simp[h1,h2] at hs
   ·rw[decide_eq_true h1,decide_eq_true (show 0<x.natAbs+y.natAbs by omega),decide_eq_true (show x+y<0 by omega)];rfl
   ·rw[decide_eq_false h1,decide_eq_false (show¬x+y<0 by omega)];rfl
 ·have hs':decide (y<0)= !decide (x<0):=by
   cases h1:decide (x<0)<;>cases h2:decide (y<0)<;>simp[h1,h2] at hs⊢
  rw[hs']
  rcases Nat.lt_or_ge x.natAbs y.natAbs with hl|hl
  ·refine(add_less _ pa pb la ca lb cb _ _ w ha' hb' hx hy (by omega) (by simp;omega)).mono ?_
   rintro e w' ⟨sz,rfl,h,hB⟩
   refine⟨_,rfl,num_made h ?_ ?_,hB⟩
   ·by_cases h1:x<0<;>by_cases h2:y<0<;>simp[h1,h2] at hs'<;>omega
   ·rw[<-hs']
    by_cases h1:x<0<;>by_cases h2:y<0<;>simp[h1,h2] at hs'
    ·rw[decide_eq_false h2,decide_eq_false (show¬x+y<0 by omega)];rfl
    ·rw[decide_eq_true h2,decide_eq_true (show 0<y.natAbs-x.natAbs by omega),decide_eq_true (show x+y<0 by omega)];rfl
  ·refine(add_more _ pa pb la ca lb cb _ _ w ha' hb' hx hy hl (by simp;omega)).mono ?_
   rintro e w' ⟨sz,rfl,h,hB⟩
   refine⟨_,rfl,num_made h ?_ ?_,hB⟩
   ·by_cases h1:x<0<;>by_cases h2:y<0<;>simp[h1,h2] at hs'<;>omega
   ·by_cases h1:x<0<;>by_cases h2:y<0<;>simp[h1,h2] at hs'
    ·rcases Nat.eq_or_lt_of_le hl with h3|h3
     ·rw[decide_eq_false (show¬0<x.natAbs-y.natAbs by omega),decide_eq_false (show¬x+y<0 by omega)];simp
     ·rw[decide_eq_true h1,decide_eq_true (show 0<x.natAbs-y.natAbs by omega),decide_eq_true (show x+y<0 by omega)];rfl
    ·rw[decide_eq_false h1,decide_eq_false (show¬x+y<0 by omega)];rfl
end Go.Proofs.YtpdhdjlhicceoaaGreatDoor
