/- For every series that comes in, whatever is in it, and all a, b: BucketOnes returns true; the arguments read as before. No condition. -/
import Derived.Test.YtidfcoooccblaaaGreatBon21
set_option maxRecDepth 100000
set_option maxHeartbeats 8000000
set_option linter.unusedSimpArgs false
set_option linter.unusedVariables false
namespace Go.Proofs.YtidfcoooccblaaaGreat
open Go.ChangeShapes Go.WideShapes Go.ChangeAt Go.RowKit Go.Deep
def Yj (s:Be) (a b z:Int):Ea:=if Bn s then (if 1<=z/\z<=5 then O8 z.toNat (D7 s a b) else ⟨2,0,0,0,0,0,0,0,0⟩) else ⟨340,0,0,0,0,0,0,0,0⟩
theorem oneT_is (s:Be) (a b z:Int):oneA s z a b=aT (Yj s a b z):=by
 unfold oneA Yj
 cases hc:Bn s with
 |false=>rfl
 |true=>
  simp only[if_true]
  by_cases h:1<=z/\z<=5
  ·rw[if_pos h,if_pos h,ansW_T,ansT_K hc]
  ·rw[if_neg h,if_neg h]
   rfl
theorem plan_few (s:Be) (a b:Int) (h:s.segs.length<=100):(plL s a b).length<=1000000:=by
 unfold plL
 split
 ·have h1:=Ou s a b s.segs.length
  have h2:(Nm s a b).length<=1:=by unfold Nm;split<;>simp
  unfold Eg
  rw[List.length_append]
  omega
 ·simp
theorem c_bones (nm:ByteArray) (ep fl la sc:Int) (ps po:Option Addr) (cs co:Nat) (rows:List Dm) (pts:List (Int×Int)) (a b:Int) (w:World) (h:Kd w ps po cs co rows pts) (hb: -9223372036854775808<=b):
  Cb 6 #[.agg #[.string nm,ep,fl,la,sc,.slice ps rows.length cs,.slice po pts.length co],a,b] w (.bool true):=by
 have c1:=fun W (_:Below w.heap.size w W)=>c_wakes26 W
 have c2:=fun W (hW:Below w.heap.size w W)=>c_own26 nm ep fl la sc ps po cs co rows pts W (h.below hW)
 obtain⟨s,hs⟩:∃s,Gn nm ep fl la sc rows pts=s:=⟨_,rfl⟩
 rw[hs] at c2
 have hnm:s.name.size<=1000:=by rw[<-hs];exact name_few nm
 have f1:s.segs.length<=100:=by
  rw[<-hs]
  show ((rows.take (min rows.length 12)).map fun r=>Vq r.s).length<=100
  rw[List.length_map,List.length_take]
  omega
 clear hs
 have cO:=fun(z:Int) (W:World) (pS:Option Addr) (capS:Nat) (pP:Option Addr) (capP:Nat) (hW:Av W s pS pP)=>Uo s pS pP capS capP z a b W hW hb
 simp only[oneT_is] at cO
 have cR:=fun(W:World) (pS:Option Addr) (capS:Nat) (pP:Option Addr) (capP:Nat) (hW:Av W s pS pP)=>Zd s pS capS pP capP W hW hnm
 have cL:=fun(W:World) (pS:Option Addr) (capS:Nat) (pP:Option Addr) (capP:Nat) (hW:Av W s pS pP)=>Wr s pS pP capS capP a b W hW
 have hl9:=plan_few s a b f1
 have cE:=fun W p j p' j' (h1:Ai W p (plL s a b)) (h2:Ai W p' (plL s a b))=>Sy p j p' j' _ _ W hl9 h1 h2
 simp only[decide_true] at cE
 have cS:=fun(W:World) (pS:Option Addr) (capS:Nat) (pP:Option Addr) (capP:Nat) (p2:Option Addr) (c2':Nat) (p3:Option Addr) (c3':Nat) (h1:Av W s pS pP) (h2:Av W s p2 p3)=>c_r24Same s pS p2 capS c2' pP p3 capP c3' W h1 h2
 have cU:Bn s=true->∀(W:World) (pS:Option Addr) (capS:Nat) (pP:Option Addr) (capP:Nat) (hW:Av W s pS pP),Calls Tryz.prog 36 #[.agg (Cg s pS capS pP capP),a,b] W fun e w'=>∃p j,e= .returned (.slice p (plL s a b).length j)/\Ai w' p (plL s a b)/\Below W.heap.size W w':=by
  intro hc W pS capS pP capP hW
  unfold plL
  rw[if_pos hc]
  exact c_r26Plan s pS capS pP capP a b W hW hc
 have cP:Bn s=true->∀z:Int,1<=z->z<=5->∀(W:World) (pS:Option Addr) (capS:Nat) (pP:Option Addr) (capP:Nat) (hW:Av W s pS pP),Cb 32 #[.agg (Cg s pS capS pP capP),z,a,b] W (.agg (aT (Yj s a b z))):=by
  intro hc z h1 h5 W pS capS pP capP hW
  obtain⟨k,rfl⟩:∃k:Nat,z=(k:Int):=⟨z.toNat,by omega⟩
  unfold Yj
  rw[if_pos hc,if_pos ⟨h1,h5⟩,Int.toNat_natCast]
  exact c_r26One s pS capS pP capP k a b W hW hc (by omega) (by omega)
 unfold Gr at cL
 unfold Cg at c2 cO cR cL cU cS cP
 unfold aT Km at cO cP
 refine bones_w nm ep fl la sc ps po _ cs _ co s a b _ _ _ (Bn s) (Yj s a b) w (Hd ?_) (fun hq z=> ?_) (fun hq z hn=> ?_) c1 c2 cR cO cP cL cU cE cS
 ·unfold plL
  cases Bn s with
  |false=>exact .inl ⟨rfl,rfl,rfl⟩
  |true=>exact .inr ⟨rfl,rfl⟩
 ·unfold Yj
  rw[hq]
  rfl
 ·unfold Yj
  rw[if_pos hq,if_neg hn]
theorem Ur (os:Os) (started:os.Started) (H:Type) (enc:TypeId×Value->H):
  ReturnsInHanded {} Tryz.checked os 6 .any (Rows.bucketOnesSpec.pre6 enc Tryz.prog Tryz.f6 Rows.bucketOnesRow.domain false) (Rows.bucketOnesSpec.post enc Tryz.prog Tryz.f6 false true false false):=by
 refine returnsInHanded_of_change (C:=Tryz.checked) Tryz.ownKnob started (by kernel_rfl) Tryz.func6
  (ChangeSpec.witness6 (enc:=enc) (C:=Tryz.checked) false ⟨#[],#[.agg #[.string .empty,.int .i64 0,.int .i64 0,.int .i64 0,.int .i64 0,.slice none 0 0,.slice none 0 0],.int .i64 0,.int .i64 0],[]⟩ 8 (by kernel_rfl) (by kernel_rfl) (by kernel_rfl) (by kernel_rfl)) ?_
 intro W base args ds gs before hval0 hW hcnd _
 have hval:∀(j:Nat) t v,Tryz.f6.params[j]? =some t->args[j]? =some v->Value.okWide Tryz.prog W .any base t v:=hval0
 have hW':=hW
 obtain⟨p,q,hA0,hV,rfl,hfz,hnd⟩:=hW
 have hA:DataW.TrodAll enc Tryz.prog W 0 (fun _=>true) true Tryz.f6.params.toList args.toList ds p:=hA0
 rw[Tryz.params6] at hA hval
 obtain⟨v0,vs0,d0,ds0,p0,q0,hargs,rfl,rfl,h0,hA⟩:=trodAll_cons hA
 obtain⟨v1,vs1,d1,ds1,p1,q1,rfl,rfl,rfl,h1,hA⟩:=trodAll_cons hA
 obtain⟨v2,vs2,d2,ds2,p2,q2,rfl,rfl,rfl,h2,hA⟩:=trodAll_cons hA
 obtain⟨rfl,rfl,rfl⟩:=trodAll_nil hA
 obtain rfl:args= #[v0,v1,v2]:=by rw[<-Array.toList_inj,hargs]
 obtain⟨rfl,rfl⟩:=trodVars_none hV
 obtain⟨nm,ep,fl,la,sc,p',cs,rows,q',co,pts,rfl,hs⟩:=open_ser (hval 0 _ v0 rfl rfl) h0
 obtain⟨a,rfl,rfl,rfl,wa⟩:=open_int Tryz.isInt64.1 (hval 1 _ v1 rfl rfl) h1
 obtain⟨b,rfl,rfl,rfl,wb⟩:=open_int Tryz.isInt64.1 (hval 2 _ v2 rfl rfl) h2
 clear hA0 hval0
 have hb9:=wf_I64 wb
 refine(c_bones nm ep fl la sc p' q' cs co rows pts a b W hs (by unfold I64 at hb9;omega)).mono fun e W' ⟨he,hb⟩=> ?_
 subst he
 exact⟨_,rfl,law_post Tryz.laidOut (pars_ok (by kernel_rfl)) rfl (by kernel_rfl) rfl hW' hb rfl⟩
theorem bucketOnes_holds :Rows.BucketOnesSaid:=
 OpenClaim.holds_of_wide 6 Tryz.f6 rfl rfl rfl rfl rfl rfl rfl ⟨rfl,rfl,rfl,rfl,rfl⟩ rfl rfl rfl rfl rfl (by kernel_rfl) Tryz.func6 (by kernel_rfl)
  (of_decide_eq_true (by kernel_rfl)) (by unfold Func.isWrapper;first|(rw[if_pos (by decide+kernel)];kernel_rfl)|(rw[if_neg (by decide+kernel)];exact⟨rfl,rfl⟩))
  (fun os started H enc _=>Ur os started H enc)
end Go.Proofs.YtidfcoooccblaaaGreat
