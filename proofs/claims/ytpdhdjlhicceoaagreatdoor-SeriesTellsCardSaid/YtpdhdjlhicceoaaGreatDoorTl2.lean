/- Parts of the proof that follows. No condition. -/
import Derived.Laws.MathBits
import Derived.Lib.Hide
import Derived.Deep.DeepCutAuto
import Derived.Deep.CutBlock
import Derived.BigQuiet
import Derived.WalkMore
import Derived.ScopeJumps
import Derived.Test.YtpdhdjlhicceoaaGreatDoorTl1
set_option maxRecDepth 100000
set_option maxHeartbeats 8000000
set_option linter.unusedSimpArgs false
set_option linter.unusedVariables false
namespace Go.Proofs.YtpdhdjlhicceoaaGreatDoor
open Go.RowKit
def mulHi (x y:Int):Int:=x*y/18446744073709551616
def mulLo (x y:Int):Int:=x*y%18446744073709551616
def I64 (a:Int):Prop:= -9223372036854775808<=a/\a<=9223372036854775807
def U64 (a:Int):Prop:=0<=a/\a<18446744073709551616
theorem c_Mul64 (x y:Int) (hx:U64 x) (hy:U64 y) (w:World):
  Calls Tryz.prog 245 #[.int .u64 x,.int .u64 y] w fun e w'=>e= .returned (.tuple #[.int .u64 (mulHi x y),.int .u64 (mulLo x y)])/\w'=w:=by
 obtain⟨x,rfl⟩:=Int.eq_ofNat_of_zero_le hx.1
 obtain⟨y,rfl⟩:=Int.eq_ofNat_of_zero_le hy.1
 have h1:=hx.2;have h2:=hy.2
 have e:=mul64_nat x y (by omega) (by omega) w
 unfold mulHi mulLo
 simpa using e
theorem mul_bd {a b:Int} (ha:I64 a) (hb:I64 b): -85070591730234615865843651857942052864<=a*b/\a*b<=85070591730234615865843651857942052864:=by
 have h1:(a*b).natAbs=a.natAbs*b.natAbs:=Int.natAbs_mul a b
 have h2:a.natAbs*b.natAbs<=9223372036854775808*9223372036854775808:=Nat.mul_le_mul (by obtain⟨_,_⟩:=ha;omega) (by obtain⟨_,_⟩:=hb;omega)
 omega
theorem W128_mul {a b:Int} (ha:I64 a) (hb:I64 b):W128 (a*b):=by
 have:=mul_bd ha hb;unfold W128;omega
theorem mul_pp (a b:Int) (ha:I64 a) (hb:I64 b) (h1:0<=a) (h2:0<=b):wrap64 (mulHi (IntKind.u64.wrap a) (IntKind.u64.wrap b))=hiW (a*b):=by
 have:=mul_bd ha hb
 obtain⟨_,_⟩:=ha;obtain⟨_,_⟩:=hb
 have e1:IntKind.u64.wrap a=a:=by rw[u64_eq];omega
 have e2:IntKind.u64.wrap b=b:=by rw[u64_eq];omega
 rw[e1,e2,wrap64_eq];unfold mulHi hiW;generalize a*b=p at*;omega
theorem mul_np (a b:Int) (ha:I64 a) (hb:I64 b) (h1:a<0) (h2:0<=b):wrap64 (IntKind.u64.wrap (mulHi (IntKind.u64.wrap a) (IntKind.u64.wrap b)-IntKind.u64.wrap b))=hiW (a*b):=by
 have:=mul_bd ha hb
 obtain⟨_,_⟩:=ha;obtain⟨_,_⟩:=hb
 have e1:IntKind.u64.wrap a=a+18446744073709551616:=by rw[u64_eq];omega
 have e2:IntKind.u64.wrap b=b:=by rw[u64_eq];omega
 have e3:mulHi (a+18446744073709551616) b=a*b/18446744073709551616+b:=by unfold mulHi;rw[Int.add_mul];generalize a*b=p;omega
 rw[e1,e2,e3,wrap64_eq,u64_eq];unfold hiW;generalize a*b=p at*;omega
theorem mul_pn (a b:Int) (ha:I64 a) (hb:I64 b) (h1:0<=a) (h2:b<0):wrap64 (IntKind.u64.wrap (mulHi (IntKind.u64.wrap a) (IntKind.u64.wrap b)-IntKind.u64.wrap a))=hiW (a*b):=by
 have:=mul_bd ha hb
 obtain⟨_,_⟩:=ha;obtain⟨_,_⟩:=hb
 have e1:IntKind.u64.wrap a=a:=by rw[u64_eq];omega
 have e2:IntKind.u64.wrap b=b+18446744073709551616:=by rw[u64_eq];omega
 have e3:mulHi a (b+18446744073709551616)=a*b/18446744073709551616+a:=by unfold mulHi;rw[Int.mul_add];generalize a*b=p;omega
 rw[e1,e2,e3,wrap64_eq,u64_eq];unfold hiW;generalize a*b=p at*;omega
theorem mul_nn (a b:Int) (ha:I64 a) (hb:I64 b) (h1:a<0) (h2:b<0):wrap64 (IntKind.u64.wrap (IntKind.u64.wrap (mulHi (IntKind.u64.wrap a) (IntKind.u64.wrap b)-IntKind.u64.wrap b)-IntKind.u64.wrap a))=hiW (a*b):=by
 have:=mul_bd ha hb
 obtain⟨_,_⟩:=ha;obtain⟨_,_⟩:=hb
 have e1:IntKind.u64.wrap a=a+18446744073709551616:=by rw[u64_eq];omega
 have e2:IntKind.u64.wrap b=b+18446744073709551616:=by rw[u64_eq];omega
 have e3:mulHi (a+18446744073709551616) (b+18446744073709551616)=a*b/18446744073709551616+a+b+18446744073709551616:=by unfold mulHi;rw[Int.add_mul,Int.mul_add,Int.mul_add];generalize a*b=p;omega
 rw[e1,e2,e3,wrap64_eq,u64_eq,u64_eq];unfold hiW;generalize a*b=p at*;omega
theorem mul_lo (a b:Int):mulLo (IntKind.u64.wrap a) (IntKind.u64.wrap b)=loW (a*b):=by
 rw[u64_eq,u64_eq];unfold mulLo loW;exact(Int.mul_emod a b _).symm
theorem c_Mul_pp (a b:Int) (w:World) (h1:0<=a) (h2:0<=b):
  Cb 283 #[.int .i64 a,.int .i64 b] w (.agg #[.int .i64 (wrap64 (mulHi (IntKind.u64.wrap a) (IntKind.u64.wrap b))),.int .u64 (mulLo (IntKind.u64.wrap a) (IntKind.u64.wrap b))]):=by
 go_enter Tryz.func283,Tryz.ntmps283
 go_wp2_with fail
 refine(c_Mul64 _ _ (u64_bd a) (u64_bd b) _).mono ?_
 rintro e w1 ⟨rfl,rfl⟩
 go_wp2
 refine bodyPost_ret (v:= .agg #[.int .i64 (wrap64 (mulHi (IntKind.u64.wrap a) (IntKind.u64.wrap b))),.int .u64 (mulLo (IntKind.u64.wrap a) (IntKind.u64.wrap b))]) (by simp[results,Tryz.results283,go_sem]) rfl ⟨rfl,?_⟩
 exact(Below.refl _ _).alloc (Nat.le_refl _) _
theorem c_Mul_np (a b:Int) (w:World) (h1:a<0) (h2:0<=b):
  Cb 283 #[.int .i64 a,.int .i64 b] w (.agg #[.int .i64 (wrap64 (IntKind.u64.wrap (mulHi (IntKind.u64.wrap a) (IntKind.u64.wrap b)-IntKind.u64.wrap b))),.int .u64 (mulLo (IntKind.u64.wrap a) (IntKind.u64.wrap b))]):=by
 go_enter Tryz.func283,Tryz.ntmps283
 go_wp2_with fail
 refine(c_Mul64 _ _ (u64_bd a) (u64_bd b) _).mono ?_
 rintro e w1 ⟨rfl,rfl⟩
 go_wp2
 refine bodyPost_ret (v:= .agg #[.int .i64 (wrap64 (IntKind.u64.wrap (mulHi (IntKind.u64.wrap a) (IntKind.u64.wrap b)-IntKind.u64.wrap b))),.int .u64 (mulLo (IntKind.u64.wrap a) (IntKind.u64.wrap b))]) (by simp[results,Tryz.results283,go_sem]) rfl ⟨rfl,?_⟩
 exact(Below.refl _ _).alloc (Nat.le_refl _) _
theorem c_Mul_pn (a b:Int) (w:World) (h1:0<=a) (h2:b<0):
  Cb 283 #[.int .i64 a,.int .i64 b] w (.agg #[.int .i64 (wrap64 (IntKind.u64.wrap (mulHi (IntKind.u64.wrap a) (IntKind.u64.wrap b)-IntKind.u64.wrap a))),.int .u64 (mulLo (IntKind.u64.wrap a) (IntKind.u64.wrap b))]):=by
 go_enter Tryz.func283,Tryz.ntmps283
 go_wp2_with fail
 refine(c_Mul64 _ _ (u64_bd a) (u64_bd b) _).mono ?_
 rintro e w1 ⟨rfl,rfl⟩
 go_wp2
 refine bodyPost_ret (v:= .agg #[.int .i64 (wrap64 (IntKind.u64.wrap (mulHi (IntKind.u64.wrap a) (IntKind.u64.wrap b)-IntKind.u64.wrap a))),.int .u64 (mulLo (IntKind.u64.wrap a) (IntKind.u64.wrap b))]) (by simp[results,Tryz.results283,go_sem]) rfl ⟨rfl,?_⟩
 exact(Below.refl _ _).alloc (Nat.le_refl _) _
theorem c_Mul_nn (a b:Int) (w:World) (h1:a<0) (h2:b<0):
  Cb 283 #[.int .i64 a,.int .i64 b] w (.agg #[.int .i64 (wrap64 (IntKind.u64.wrap (IntKind.u64.wrap (mulHi (IntKind.u64.wrap a) (IntKind.u64.wrap b)-IntKind.u64.wrap b)-IntKind.u64.wrap a))),.int .u64 (mulLo (IntKind.u64.wrap a) (IntKind.u64.wrap b))]):=by
 go_enter Tryz.func283,Tryz.ntmps283
 go_wp2_with fail
 refine(c_Mul64 _ _ (u64_bd a) (u64_bd b) _).mono ?_
 rintro e w1 ⟨rfl,rfl⟩
 go_wp2
 refine bodyPost_ret (v:= .agg #[.int .i64 (wrap64 (IntKind.u64.wrap (IntKind.u64.wrap (mulHi (IntKind.u64.wrap a) (IntKind.u64.wrap b)-IntKind.u64.wrap b)-IntKind.u64.wrap a))),.int .u64 (mulLo (IntKind.u64.wrap a) (IntKind.u64.wrap b))]) (by simp[results,Tryz.results283,go_sem]) rfl ⟨rfl,?_⟩
 exact(Below.refl _ _).alloc (Nat.le_refl _) _
theorem c_Mul (a b:Int) (w:World) (ha:I64 a) (hb:I64 b):
  Cb 283 #[.int .i64 a,.int .i64 b] w (wideV (a*b)):=by
 unfold wideV
 rw[<-mul_lo a b]
 rcases Int.lt_or_le a 0 with h1|h1<;>rcases Int.lt_or_le b 0 with h2|h2
 ·rw[<-mul_nn a b ha hb h1 h2];exact c_Mul_nn a b w h1 h2
 ·rw[<-mul_np a b ha hb h1 h2];exact c_Mul_np a b w h1 h2
 ·rw[<-mul_pn a b ha hb h1 h2];exact c_Mul_pn a b w h1 h2
 ·rw[<-mul_pp a b ha hb h1 h2];exact c_Mul_pp a b w h1 h2
attribute [local simp] Oper.looksAt Op.operands Call.operands envOf Det GDet
instance (n : Int) : Decidable (I64 n) := by unfold I64; infer_instance
def inI (n:Int):Bool:=decide (I64 n)
theorem inI_in {n:Int} (h:I64 n):inI n=true:=by simp[inI,h]
theorem inI_iff (a:Int) (ha:W128 a):(hiW a=hiW (wrap64 (loW a))/\loW a=loW (wrap64 (loW a)))↔I64 a:=by
 obtain⟨_,_⟩:=ha;rw[wrap64_eq];unfold I64 hiW loW;omega
theorem wrap_lo {a:Int} (h:I64 a):wrap64 (loW a)=a:=by rw[wrap64_eq];obtain⟨_,_⟩:=h;unfold loW;omega
theorem wv_lo (a:Int):wv (inI a) (wrap64 (loW a))=wv (inI a) a:=by
 by_cases h:I64 a
 ·rw[wrap_lo h]
 ·simp[inI,h,wv]
theorem c_toldI (a:Int) (f:Bool) (w:World):
  Cb 292 #[.int .i64 a,.bool f] w (.tuple #[.int .i64 (wv f a),.int .i64 (we f)]):=by
 cases f with
 |true=>
  have e1:wv true a=a:=rfl
  have e2:we true=0:=rfl
  rw[e1,e2]
  clear e1 e2
  go_enter Tryz.func292,Tryz.ntmps292
  go_wp2
  go_ret2
  exact⟨rfl,Below.refl _ _⟩
 |false=>
  have e1:wv false a=0:=rfl
  have e2:we false=5:=rfl
  rw[e1,e2]
  clear e1 e2
  go_enter Tryz.func292,Tryz.ntmps292
  go_wp2
  go_ret2
  exact⟨rfl,Below.refl _ _⟩
theorem wrap_I64 (n:Int):I64 (wrap64 n):=by unfold I64;rw[wrap64_eq];omega
theorem c_Int (a:Int) (w:World) (ha:W128 a):
  Cb 236 #[wideV a] w (.tuple #[.int .i64 (wv (inI a) a),.int .i64 (we (inI a))]):=by
 unfold wideV
 go_enter Tryz.func236,Tryz.ntmps236
 go_wp2
 refine wp_facts (fun W=>Below w.heap.size w W/\Blk W w.heap.size #[.int .i64 (hiW a),.int .u64 (loW a)] 279) ⟨(Below.refl _ _).alloc (Nat.le_refl _) _,(by repeat (first|(refine Blk.new' ?_;simp;done)|refine Blk.alloc ?_ _))⟩ ?_
 rintro W ⟨hW,b1⟩
 refine wp_region_nd 14 16 [] (fun W'=>Rex [] W W'/\Blk W' w.heap.size #[.int .i64 (hiW a),.int .u64 (loW a)] 279) mixed (by kernel_rfl) rfl ⟨(Rex.refl _ _).drew,b1⟩ (fun w w' ⟨h0,h1⟩ hr=>⟨h0.trans hr,h1.rex hr (by simp<;>omega)⟩) (fun c a d v w h=>by cases d<;>exact h) ?_
 iterate 7
  apply nd_det (hg:=rfl) (hal:=rfl)
  ·intro a W' hC hE
   obtain⟨_,k1⟩:=hC
   have k1:=k1.cell
   first
    |(simp at hE;simp[go_sem,Act.eval,iw,hE,k1];try rfl)
    |(clear hE;simp[go_sem,Act.eval,iw,k1];try rfl)
 refine nd_callv2 rfl rfl (fun W' hC=>c_Of (wrap64 (loW a)) W' (wrap_I64 _)) (fun a W' hC hE=> ?_) ?_
 ·obtain⟨_,k1⟩:=hC
  have k1:=k1.cell
  first
   |(simp at hE;simp[go_sem,Act.eval,iw,hE,k1];try rfl)
   |(clear hE;simp[go_sem,Act.eval,iw,k1];try rfl)
 unfold wideV
 have hiff:=inI_iff a ha
 refine nd_det (.bool (inI a)) rfl rfl (fun a' W' hC hE=> ?_) ?_
 ·simp[Oper.looksAt,Op.operands,envOf,Det] at hE
  simp[go_sem,Act.eval,hE]
  unfold inI
  by_cases h:I64 a
  ·obtain⟨h1,h2⟩:=hiff.2 h
   rw[if_pos h1,if_pos h2,decide_eq_true h]
  ·rw[decide_eq_false h]
   split
   ·split
    ·exact absurd (hiff.1 ⟨‹_›,‹_›⟩) h
    ·rfl
   ·rfl
 refine nd_callv2 rfl rfl (fun W' hC=>c_toldI (wrap64 (loW a)) (inI a) W') (fun a W' hC hE=> ?_) ?_
 ·obtain⟨_,k1⟩:=hC
  have k1:=k1.cell
  first
   |(simp at hE;simp[go_sem,Act.eval,iw,hE,k1];try rfl)
   |(clear hE;simp[go_sem,Act.eval,iw,k1];try rfl)
 iterate 4
  apply nd_det (hg:=rfl) (hal:=rfl)
  ·intro a W' hC hE
   obtain⟨_,k1⟩:=hC
   have k1:=k1.cell
   first
    |(simp at hE;simp[go_sem,Act.eval,iw,hE,k1];try rfl)
    |(clear hE;simp[go_sem,Act.eval,iw,k1];try rfl)
 rintro W2 ⟨hR,c1⟩
 simp only[ndFinR,Det,forall_eq]
 intros
 repeat (rename GDet _ _ _ _=>hgd;clear hgd)
 simp only[nS]
 refine wpList_nil ?_
 clear hiff
 go_wp2
 go_ret2
 exact⟨by simp[wv_lo],hW.trans (hR.of_priv hW.size)⟩
end Go.Proofs.YtpdhdjlhicceoaaGreatDoor
namespace Go.Proofs.YtpdhdjlhicceoaaGreatDoor
open Go.RowKit
def len64 (x:Int):Int:=(Go.bitLen x.toNat:Int)
theorem len_div (x d:Int) (b:Nat) (hd:d=((2^b:Nat):Int)) (h:d<=x):len64 x=b+len64 (x/d):=by
 have hp:0<2^b:=Nat.two_pow_pos b
 have e:(x/d).toNat=x.toNat/2^b:=by
  subst hd
  obtain⟨n,rfl⟩:=Int.eq_ofNat_of_zero_le (show 0<=x by omega)
  rw[<-Int.natCast_ediv];rfl
 have hne:x.toNat/2^b≠0:=by
  have:2^b<=x.toNat:=by omega
  have:=Nat.div_pos this hp
  omega
 unfold len64
 rw[e,Go.bitLen_shift x.toNat b hne]
 omega
theorem len_small (x:Int) (h0:0<=x) (h:x<256):0<=len64 x/\len64 x<=8:=by
 have:=Go.bitLen_le8 x.toNat (by omega);unfold len64;omega
theorem ret_int {k:IntKind} {a b:Int} (h:a=b):Ending.returned (.int k a)= .returned (.int k b):=by rw[h]
theorem c_Len64 (x:Int) (w:World) (h0:0<=x) (h1:x<18446744073709551616):
  Calls Tryz.prog 358 #[.int .u64 x] w fun e w'=>e= .returned (.int .i64 (len64 x))/\w'=w:=by
 go_enter Tryz.func358,Tryz.ntmps358
 go_wp2
 all_goals
  simp only[Go.len8tab_get]
  go_ret
  refine⟨ret_int ?_,rfl⟩
 all_goals
  (try simp only[wrap64_eq])
  first
   |(have a:=len_div x 4294967296 32 rfl (by omega);have b:=len_div (x/4294967296) 65536 16 rfl (by omega);have c:=len_div (x/4294967296/65536) 256 8 rfl (by omega);have d:=len_small (x/4294967296/65536/256) (by omega) (by omega);unfold len64 at*;omega)
   |(have a:=len_div x 4294967296 32 rfl (by omega);have b:=len_div (x/4294967296) 65536 16 rfl (by omega);have d:=len_small (x/4294967296/65536) (by omega) (by omega);unfold len64 at*;omega)
   |(have a:=len_div x 4294967296 32 rfl (by omega);have c:=len_div (x/4294967296) 256 8 rfl (by omega);have d:=len_small (x/4294967296/256) (by omega) (by omega);unfold len64 at*;omega)
   |(have a:=len_div x 4294967296 32 rfl (by omega);have d:=len_small (x/4294967296) (by omega) (by omega);unfold len64 at*;omega)
   |(have b:=len_div x 65536 16 rfl (by omega);have c:=len_div (x/65536) 256 8 rfl (by omega);have d:=len_small (x/65536/256) (by omega) (by omega);unfold len64 at*;omega)
   |(have b:=len_div x 65536 16 rfl (by omega);have d:=len_small (x/65536) (by omega) (by omega);unfold len64 at*;omega)
   |(have c:=len_div x 256 8 rfl (by omega);have d:=len_small (x/256) (by omega) (by omega);unfold len64 at*;omega)
   |(have d:=len_small x (by omega) (by omega);unfold len64 at*;omega)
theorem len64_bd (x:Int) (h0:1<=x) (h1:x<18446744073709551616):∃l:Nat,len64 x=l/\1<=l/\l<=64/\((2^(l-1):Nat):Int)<=x/\x<((2^l:Nat):Int):=by
 obtain⟨a,b⟩:=Go.bitLen_spec x.toNat
 have b:=b (by omega)
 refine⟨Go.bitLen x.toNat,rfl,?_,?_,by omega,by omega⟩
 ·rcases Nat.eq_zero_or_pos (Go.bitLen x.toNat) with h|h
  ·rw[h] at a;simp at a;omega
  ·exact h
 ·rcases Nat.lt_or_ge 64 (Go.bitLen x.toNat) with h|h
  ·have:2^64<=2^(Go.bitLen x.toNat-1):=Nat.pow_le_pow_right (by decide) (by omega)
   omega
  ·exact h
theorem c_LZ64 (x:Int) (w:World) (h0:1<=x) (h1:x<18446744073709551616):
  Calls Tryz.prog 353 #[.int .u64 x] w fun e w'=>e= .returned (.int .i64 (64-len64 x))/\w'=w:=by
 obtain⟨l,e,a,b,_,_⟩:=len64_bd x h0 h1
 have g:0<=len64 x/\len64 x<=64:=by omega
 clear a b e
 obtain⟨g1,g2⟩:=g
 go_enter Tryz.func353,Tryz.ntmps353
 go_wp2_with fail
 refine(c_Len64 x _ (by omega) h1).mono ?_
 rintro e w1 ⟨rfl,rfl⟩
 go_wp2
 go_ret
 exact⟨rfl,rfl⟩
/-! ### One step of the division: a guess that is lowered -/
structure Guess (Y p z U t q r:Int):Prop where
 eq:q*p+r=U
 q0:0<=q
 qt:q<=4294967297
 r0:0<=r
 rt:r<4294967296
 ge:(U*4294967296+t)/Y<=q
structure Divs (Y p z U t:Int):Prop where
 y:Y=p*4294967296+z
 p1:2147483648<=p
 p2:p<4294967296
 z1:0<=z
 z2:z<4294967296
 u1:0<=U
 u2:U<Y
 t1:0<=t
 t2:t<4294967296
theorem Divs.quo_lt {Y p z U t:Int} (D:Divs Y p z U t):(U*4294967296+t)/Y<4294967296:=by
 obtain⟨_,_,_,_,_,_,_,_,_⟩:=D
 exact Int.ediv_lt_of_lt_mul (by omega) (by omega)
theorem Divs.start {Y p z U t:Int} (D:Divs Y p z U t):Guess Y p z U t (U/p) (U-U/p*p):=by
 obtain⟨hy,p1,p2,z1,z2,u1,u2,t1,t2⟩:=D
 have hm:=Int.emod_add_mul_ediv U p
 have hl:=Int.emod_lt_of_pos U (show 0<p by omega)
 have hn:=Int.emod_nonneg U (show p≠0 by omega)
 have hc:p*(U/p)=U/p*p:=Int.mul_comm _ _
 refine⟨by omega,Int.ediv_nonneg u1 (by omega),?_,by omega,by omega,?_⟩
 ·have:U/p<4294967298:=Int.ediv_lt_of_lt_mul (by omega) (by omega)
  omega
 ·have:(U*4294967296+t)/Y<U/p+1:=Int.ediv_lt_of_lt_mul (by omega) (by
   rw[hy,Int.mul_add,<-Int.mul_assoc]
   have h1:(U/p+1)*p=U/p*p+p:=by rw[Int.add_mul];omega
   have h2:0<=(U/p+1)*z:=Int.mul_nonneg (by have:=Int.ediv_nonneg u1 (show 0<=p by omega);omega) z1
   rw[h1]
   omega)
  omega
theorem Guess.dec {Y p z U t q r:Int} (D:Divs Y p z U t) (G:Guess Y p z U t q r) (hc:4294967296<=q∨4294967296*r+t<q*z):(U*4294967296+t)/Y<=q-1/\(q-1)*p+(r+p)=U/\0<=q-1:=by
 have hl:=D.quo_lt
 have h0:0<=(U*4294967296+t)/Y:=Int.ediv_nonneg (by have:=D.u1;have:=D.t1;omega) (by have:=D.u1;have:=D.u2;omega)
 have hge:(U*4294967296+t)/Y<q:=by
  rcases hc with h|h
  ·omega
  ·refine Int.ediv_lt_of_lt_mul (by have:=D.u1;have:=D.u2;omega) ?_
   rw[D.y,Int.mul_add,<-Int.mul_assoc]
   have:=G.eq
   omega
 refine⟨by omega,?_,by omega⟩
 have:=G.eq
 rw[Int.sub_mul]
 omega
theorem Guess.done {Y p z U t q r:Int} (D:Divs Y p z U t) (G:Guess Y p z U t q r) (h:q*z<=4294967296*r+t):q=(U*4294967296+t)/Y:=by
 have:q<=(U*4294967296+t)/Y:=(Int.le_ediv_iff_mul_le (by have:=D.u1;have:=D.u2;omega)).2 (by
  rw[D.y,Int.mul_add,<-Int.mul_assoc]
  have:=G.eq
  omega)
 have:=G.ge
 omega
theorem Guess.broken {Y p z U t q r:Int} (D:Divs Y p z U t) (hge:(U*4294967296+t)/Y<=q) (heq:q*p+r=U) (hq0:0<=q) (hq:q<=4294967296) (hr:4294967296<=r):q=(U*4294967296+t)/Y:=by
 have hz:q*z<=4294967296*4294967296:=Int.mul_le_mul hq (by have:=D.z2;omega) D.z1 (by decide)
 have:q<=(U*4294967296+t)/Y:=(Int.le_ediv_iff_mul_le (by have:=D.u1;have:=D.u2;omega)).2 (by
  rw[D.y,Int.mul_add,<-Int.mul_assoc]
  have:=D.t1
  omega)
 omega
theorem Divs.rest {Y p z U t:Int} (D:Divs Y p z U t) (hY:Y<18446744073709551616):IntKind.u64.wrap (IntKind.u64.wrap (IntKind.u64.wrap (U*4294967296)+t)-IntKind.u64.wrap ((U*4294967296+t)/Y*Y))=(U*4294967296+t)%Y:=by
 have hm:=Int.emod_add_mul_ediv (U*4294967296+t) Y
 have hl:=Int.emod_lt_of_pos (U*4294967296+t) (show 0<Y by have:=D.u1;have:=D.u2;omega)
 have hn:=Int.emod_nonneg (U*4294967296+t) (show Y≠0 by have:=D.u1;have:=D.u2;omega)
 have hc:Y*((U*4294967296+t)/Y)=(U*4294967296+t)/Y*Y:=Int.mul_comm _ _
 simp only[u64_eq]
 omega
theorem guess_bd {q z:Int} (h0:0<=q) (h:q<4294967296) (z1:0<=z) (z2:z<4294967296):0<=q*z/\q*z<=18446744073709551615:=by
 refine⟨Int.mul_nonneg h0 z1,?_⟩
 have:q*z<=4294967295*4294967295:=Int.mul_le_mul (by omega) (by omega) z1 (by decide)
 omega
theorem Divs.next {Y p z U t t0:Int} (D:Divs Y p z U t) (h1:0<=t0) (h2:t0<4294967296):Divs Y p z ((U*4294967296+t)%Y) t0:=
 ⟨D.y,D.p1,D.p2,D.z1,D.z2,Int.emod_nonneg _ (by have:=D.u1;have:=D.u2;omega),Int.emod_lt_of_pos _ (by have:=D.u1;have:=D.u2;omega),h1,h2⟩
theorem div_core (hi lo y s Y p z U T t1 t0 Q V Q2 V2:Int) (w:World) (h0:1<=hi) (h1:hi<y) (h2:y<18446744073709551616) (l0:0<=lo) (l1:lo<18446744073709551616) (g1:0<=s) (g2:s<=63)
  (hlz:Calls Tryz.prog 353 #[.int .u64 y] w fun e w'=>e= .returned (.int .i64 s)/\w'=w)
  (hY:IntKind.u64.wrap (y*2^s.toNat)=Y) (hp:Y/4294967296=p) (hz:bits .and .u64 Y 4294967295=z) (hU:bits .or .u64 (IntKind.u64.wrap (hi*2^s.toNat)) (lo/2^(64-s).toNat)=U)
  (hT:IntKind.u64.wrap (lo*2^s.toNat)=T) (ht1:T/4294967296=t1) (ht0:bits .and .u64 T 4294967295=t0) (D:Hid (Divs Y p z U t1)) (p1:2147483648<=p) (p2:p<4294967296) (z1:0<=z) (z2:z<4294967296) (u1:0<=U) (u2:U<18446744073709551616)
  (a1:0<=t1) (a2:t1<4294967296) (b1:0<=t0) (b2:t0<4294967296) (HY:Hid (Y<18446744073709551616))
  (HQ:Hid ((U*4294967296+t1)/Y=Q)) (HV:Hid ((U*4294967296+t1)%Y=V)) (HQ2:Hid ((V*4294967296+t0)/Y=Q2)) (HV2:Hid ((V*4294967296+t0)%Y=V2)):
  Calls Tryz.prog 346 #[.int .u64 hi,.int .u64 lo,.int .u64 y] w fun e w'=>e= .returned (.tuple #[.int .u64 (IntKind.u64.wrap (IntKind.u64.wrap (Q*4294967296)+Q2)),.int .u64 (V2/2^s.toNat)])/\w'=w:=by
 have G0:=D.out.start
 have c1:0<=U/p*p:=Int.mul_nonneg G0.q0 (by omega)
 have c2:U/p*p<=U:=by have:=G0.eq;have:=G0.r0;omega
 have G0:=Hd G0
 have D2:=D.out.next b1 b2
 rw[HV.out] at D2
 have v1:=D2.u1
 have v2:V<=18446744073709551615:=by have:=D2.u2;have:=HY.out;omega
 have G1:=D2.start
 have c3:0<=V/p*p:=Int.mul_nonneg G1.q0 (by omega)
 have c4:V/p*p<=V:=by have:=G1.eq;have:=G1.r0;omega
 have G1:=Hd G1
 have D2:=Hd D2
 have E1:=D.out.rest HY.out
 rw[HQ.out,HV.out] at E1
 have E2:=D2.out.rest HY.out
 rw[HQ2.out,HV2.out] at E2
 have E1:=Hd E1
 have E2:=Hd E2
 have C34:=Hd (And.intro c3 c4)
 clear c3 c4
 go_enter Tryz.func346,Tryz.ntmps346
 go_wp2_with fail
 refine hlz.mono ?_
 rintro e w1 ⟨rfl,rfl⟩
 clear hlz
 go_upto_block 0 with(fail)
 clear hY hp hz hU hT ht1 ht0 c1 c2 h0 h1 h2 l0 l1
 go_cut [15] (fun qv wx=>qv= .int .u64 Q/\wx=w1)
 case first=>
  go_wp2
  go_loop [15,16] (fun qv rv=>∃q r:Int,qv= .int .u64 q/\rv= .int .u64 r/\Hid (Guess Y p z U t1 q r)) (fun _ rv=>(4294967296-intOf rv).toNat)
  case atStart=>exact⟨U/p,_,rfl,rfl,G0.out⟩
  case round=>
   obtain⟨q,r,rfl,rfl,G⟩:=hrel
   have e0:=G.out.q0
   have e1:=G.out.qt
   have e2:=G.out.r0
   have e3:=G.out.rt
   clear G0
   by_cases k1:4294967296<=q
   ·obtain⟨d1,d2,d3⟩:=G.out.dec D.out (.inl k1)
    have HD:=Hd (And.intro d1 d2)
    clear d1 d2
    by_cases k2:4294967296<=r+p
    ·go_wp2
     go_meet
     exact⟨by rw[Guess.broken D.out HD.out.1 HD.out.2 d3 (by omega) k2,HQ.out],rfl⟩
    ·go_wp2
     go_round
     case rel=>exact⟨q-1,r+p,rfl,rfl,⟨HD.out.2,d3,by omega,by omega,by omega,HD.out.1⟩⟩
     case measure=>simp[intOf];omega
   ·obtain⟨m1,m2⟩:=guess_bd e0 (by omega) z1 z2
    by_cases k3:4294967296*r+t1<q*z
    ·obtain⟨d1,d2,d3⟩:=G.out.dec D.out (.inr k3)
     have HD:=Hd (And.intro d1 d2)
     clear d1 d2
     by_cases k2:4294967296<=r+p
     ·go_wp2
      go_meet
      exact⟨by rw[Guess.broken D.out HD.out.1 HD.out.2 d3 (by omega) k2,HQ.out],rfl⟩
     ·go_wp2
      go_round
      case rel=>exact⟨q-1,r+p,rfl,rfl,⟨HD.out.2,d3,by omega,by omega,by omega,HD.out.1⟩⟩
      case measure=>simp[intOf];omega
    ·have HD:=Hd (G.out.done D.out (by omega))
     go_wp2
     go_meet
     exact⟨by rw[HD.out,HQ.out],rfl⟩
 case rest=>
  obtain⟨rfl,hwx⟩:=hcut
  subst wc
  obtain⟨c3,c4⟩:=C34.out
  have E1:=E1.out
  clear G0
  go_upto_block 2 with(fail)
  clear E1 c3 c4
  go_cut [18] (fun qv wy=>qv= .int .u64 Q2/\wy=w1)
  case first=>
   go_wp2
   go_loop [18,16] (fun qv rv=>∃q r:Int,qv= .int .u64 q/\rv= .int .u64 r/\Hid (Guess Y p z V t0 q r)) (fun _ rv=>(4294967296-intOf rv).toNat)
   case atStart=>exact⟨V/p,_,rfl,rfl,G1.out⟩
   case round=>
    obtain⟨q,r,rfl,rfl,G⟩:=hrel
    have e0:=G.out.q0
    have e1:=G.out.qt
    have e2:=G.out.r0
    have e3:=G.out.rt
    clear G1
    by_cases k1:4294967296<=q
    ·obtain⟨d1,d2,d3⟩:=G.out.dec D2.out (.inl k1)
     have HD:=Hd (And.intro d1 d2)
     clear d1 d2
     by_cases k2:4294967296<=r+p
     ·go_wp2
      go_meet
      exact⟨by rw[Guess.broken D2.out HD.out.1 HD.out.2 d3 (by omega) k2,HQ2.out],rfl⟩
     ·go_wp2
      go_round
      case rel=>exact⟨q-1,r+p,rfl,rfl,⟨HD.out.2,d3,by omega,by omega,by omega,HD.out.1⟩⟩
      case measure=>simp[intOf];omega
    ·obtain⟨m1,m2⟩:=guess_bd e0 (by omega) z1 z2
     by_cases k3:4294967296*r+t0<q*z
     ·obtain⟨d1,d2,d3⟩:=G.out.dec D2.out (.inr k3)
      have HD:=Hd (And.intro d1 d2)
      clear d1 d2
      by_cases k2:4294967296<=r+p
      ·go_wp2
       go_meet
       exact⟨by rw[Guess.broken D2.out HD.out.1 HD.out.2 d3 (by omega) k2,HQ2.out],rfl⟩
      ·go_wp2
       go_round
       case rel=>exact⟨q-1,r+p,rfl,rfl,⟨HD.out.2,d3,by omega,by omega,by omega,HD.out.1⟩⟩
       case measure=>simp[intOf];omega
     ·have HD:=Hd (G.out.done D2.out (by omega))
      go_wp2
      go_meet
      exact⟨by rw[HD.out,HQ2.out],rfl⟩
  case rest=>
   obtain⟨rfl,hwx⟩:=hcut
   subst wc
   have E2:=E2.out
   clear G1
   go_wp2
   go_ret2
   exact⟨rfl,rfl⟩
attribute [local simp] Oper.looksAt Op.operands Call.operands envOf Det GDet
theorem or_shift (a b s:Nat) (ha:2^s*a<18446744073709551616) (hb:b<2^s) (hs:s<=63):bits .or .u64 ((2^s*a:Nat):Int) (b:Int)=((2^s*a+b:Nat):Int):=by
 have h1:2^s<=2^63:=Nat.pow_le_pow_right (by decide) hs
 rw[bits_or_u64_nat _ _ ha (by omega),Nat.two_pow_add_eq_or_of_lt hb]
structure Shf (hi lo y e f:Nat):Prop where
 ef:e*f=18446744073709551616
 e1:1<=e
 f2:2<=f
 hy:hi<y
 y1:9223372036854775808<=y*e
 y2:y*e<18446744073709551616
 l:lo<18446744073709551616
theorem Shf.lo_eq {hi lo y e f:Nat} (S:Shf hi lo y e f):lo*e=lo/f*18446744073709551616+lo*e%18446744073709551616:=by
 have h1:lo*e/18446744073709551616=lo/f:=by
  rw[<-S.ef,Nat.mul_comm lo e]
  exact Nat.mul_div_mul_left _ _ (by have:=S.e1;omega)
 have:=Nat.div_add_mod (lo*e) 18446744073709551616
 rw[h1] at this
 omega
theorem Shf.num {hi lo y e f:Nat} (S:Shf hi lo y e f):(e*hi+lo/f)*18446744073709551616+lo*e%18446744073709551616=(hi*18446744073709551616+lo)*e:=by
 have:=S.lo_eq
 rw[Nat.add_mul,Nat.add_mul,Nat.mul_right_comm hi,Nat.mul_comm e hi]
 omega
theorem Shf.lt {hi lo y e f:Nat} (S:Shf hi lo y e f):e*hi+lo/f<y*e:=by
 have h1:(hi*18446744073709551616+lo)*e<y*e*18446744073709551616:=by
  have:hi*18446744073709551616+lo<y*18446744073709551616:=by have:=S.hy;have:=S.l;omega
  calc (hi*18446744073709551616+lo)*e<(y*18446744073709551616)*e:=Nat.mul_lt_mul_of_pos_right this (by have:=S.e1;omega)
   _=y*e*18446744073709551616:=by rw[Nat.mul_right_comm]
 have:=S.num
 omega
theorem Shf.ehi {hi lo y e f:Nat} (S:Shf hi lo y e f):e*hi<18446744073709551616:=by
 exact Nat.lt_of_le_of_lt (Nat.le_add_right _ _) (Nat.lt_trans S.lt S.y2)
theorem div_uniq {m q r N:Nat} (h:m*q+r=N) (hr:r<m):N/m=q/\N%m=r:=by
 subst h
 exact⟨by rw[Nat.mul_add_div (by omega),Nat.div_eq_of_lt hr];rfl,by rw[Nat.mul_add_mod,Nat.mod_eq_of_lt hr]⟩
theorem castq (U t Y:Nat):((U:Int)*4294967296+(t:Int))/(Y:Int)=(((U*4294967296+t)/Y:Nat):Int):=by simp
theorem castr (U t Y:Nat):((U:Int)*4294967296+(t:Int))%(Y:Int)=(((U*4294967296+t)%Y:Nat):Int):=by simp
theorem div_two (A B N y e:Nat) (Q V Q2 V2:Nat) (hy:0<y*e) (h1:(A*4294967296+B/4294967296)/(y*e)=Q) (h2:(A*4294967296+B/4294967296)%(y*e)=V)
  (h3:(V*4294967296+B%4294967296)/(y*e)=Q2) (h4:(V*4294967296+B%4294967296)%(y*e)=V2) (hN:A*18446744073709551616+B=N*e) (he:0<e):
  Q*4294967296+Q2=N/y/\V2/e=N%y:=by
 have d1:=Nat.div_add_mod (A*4294967296+B/4294967296) (y*e)
 have d2:=Nat.div_add_mod (V*4294967296+B%4294967296) (y*e)
 have l2:=Nat.mod_lt (V*4294967296+B%4294967296) hy
 rw[h1,h2] at d1
 rw[h3,h4] at d2
 rw[h4] at l2
 have hb:=Nat.div_add_mod B 4294967296
 have e1:y*e*(Q*4294967296+Q2)+V2=N*e:=by
  have hx:y*e*(Q*4294967296+Q2)=y*e*Q*4294967296+y*e*Q2:=by rw[Nat.mul_add,Nat.mul_assoc (y*e) Q]
  omega
 have hq:N*e/(y*e)=N/y:=Nat.mul_div_mul_right _ _ he
 have hr:N*e%(y*e)=N%y*e:=Nat.mul_mod_mul_right _ _ _
 obtain⟨hu,hv⟩:=div_uniq e1 l2
 refine⟨by rw[<-hu,hq],?_⟩
 rw[<-hv,hr]
 exact Nat.mul_div_cancel _ he
theorem c_Div64n (hi lo y:Nat) (w:World) (h0:1<=hi) (h1:hi<y) (h2:y<18446744073709551616) (l1:lo<18446744073709551616):
  Calls Tryz.prog 346 #[.int .u64 hi,.int .u64 lo,.int .u64 y] w fun e w'=>e= .returned (.tuple #[.int .u64 (((hi*18446744073709551616+lo)/y:Nat):Int),.int .u64 (((hi*18446744073709551616+lo)%y:Nat):Int)])/\w'=w:=by
 obtain⟨l,e,la,lb,lc,ld⟩:=len64_bd y (by omega) (by omega)
 have hlz:=c_LZ64 y w (by omega) (by omega)
 have hs:64-len64 y=((64-l:Nat):Int):=by omega
 rw[hs] at hlz
 have hef:2^(64-l)*2^l=18446744073709551616:=by rw[<-Nat.pow_add,show 64-l+l=64 by omega]
 have hl2:2^l=2*2^(l-1):=by rw[show l=l-1+1 by omega,Nat.pow_succ];simp;omega
 have S:Shf hi lo y (2^(64-l)) (2^l):=by
  refine⟨hef,Nat.one_le_two_pow,by have:= @Nat.one_le_two_pow (l-1);omega,h1,?_,?_,l1⟩
  ·have:2^(l-1)*2^(64-l)<=y*2^(64-l):=Nat.mul_le_mul_right _ (by omega)
   have h3:2^(l-1)*2^(64-l)=9223372036854775808:=by rw[<-Nat.pow_add,show l-1+(64-l)=63 by omega]
   omega
  ·have:y*2^(64-l)<2^l*2^(64-l):=Nat.mul_lt_mul_of_pos_right (by omega) (Nat.two_pow_pos _)
   rw[Nat.mul_comm (2^l),hef] at this
   exact this
 have hpow:(2:Int)^(((64-l:Nat):Int)).toNat=((2^(64-l):Nat):Int):=by simp
 have hpow2:(2:Int)^(64-((64-l:Nat):Int)).toNat=((2^l:Nat):Int):=by
  rw[show (64-((64-l:Nat):Int)).toNat=l by omega];simp
 have hlt:=S.lt
 have hehi:=S.ehi
 have hnum:=S.num
 have hY1:=S.y1
 have hY2:=S.y2
 have hlf:lo/2^l<2^(64-l):=Nat.div_lt_of_lt_mul (by rw[Nat.mul_comm,hef];exact l1)
 have hT:=Nat.mod_lt (lo*2^(64-l)) (show 0<18446744073709551616 by decide)
 have hor:=or_shift hi (lo/2^l) (64-l) hehi hlf (by omega)
 have D:Divs ((y*2^(64-l):Nat):Int) ((y*2^(64-l)/4294967296:Nat):Int) ((y*2^(64-l)%4294967296:Nat):Int) ((2^(64-l)*hi+lo/2^l:Nat):Int) ((lo*2^(64-l)%18446744073709551616/4294967296:Nat):Int):=by
  generalize y*2^(64-l)=Y at*
  generalize 2^(64-l)*hi+lo/2^l=U at*
  generalize lo*2^(64-l)%18446744073709551616=T at*
  exact⟨by omega,by omega,by omega,by omega,by omega,by omega,by omega,by omega,by omega⟩
 have fin:=div_two (2^(64-l)*hi+lo/2^l) (lo*2^(64-l)%18446744073709551616) (hi*18446744073709551616+lo) y (2^(64-l)) _ _ _ _ (by omega) rfl rfl rfl rfl hnum (Nat.two_pow_pos _)
 have hquo:(hi*18446744073709551616+lo)/y<18446744073709551616:=Nat.div_lt_of_lt_mul (by omega)
 have key:=div_core hi lo y ((64-l:Nat):Int) ((y*2^(64-l):Nat):Int) ((y*2^(64-l)/4294967296:Nat):Int) ((y*2^(64-l)%4294967296:Nat):Int) ((2^(64-l)*hi+lo/2^l:Nat):Int)
  ((lo*2^(64-l)%18446744073709551616:Nat):Int) ((lo*2^(64-l)%18446744073709551616/4294967296:Nat):Int) ((lo*2^(64-l)%18446744073709551616%4294967296:Nat):Int) _ _ _ _ w (by omega) (by omega) (by omega) (by omega) (by omega) (by omega) (by omega) hlz
  (by rw[hpow,<-Int.natCast_mul];exact u64_nat _ hY2) (div32 _) (low32 _ hY2)
  (by rw[hpow,hpow2,<-Int.natCast_mul,Nat.mul_comm hi,u64_nat _ hehi,<-Int.natCast_ediv];exact hor)
  (by rw[hpow,<-Int.natCast_mul];exact u64_mod _) (div32 _) (low32 _ hT) D D.p1 D.p2 D.z1 D.z2 D.u1 (by have:=D.u2;omega) D.t1 D.t2 (by omega) (by omega) (by show ((y*2^(64-l):Nat):Int)<_;omega)
  (castq _ _ _) (castr _ _ _) (castq _ _ _) (castr _ _ _)
 refine key.mono fun e w' ⟨he,hw⟩=>⟨?_,hw⟩
 rw[he,<-fin.1,<-fin.2,hpow]
 have hq:=hquo
 rw[<-fin.1] at hq
 clear fin hor hnum D key he
 have e1:∀a b:Nat,a*4294967296+b<18446744073709551616->IntKind.u64.wrap (IntKind.u64.wrap ((a:Int)*4294967296)+(b:Int))=((a*4294967296+b:Nat):Int):=fun a b h=>by
  rw[u64_eq,u64_eq];omega
 rw[e1 _ _ hq]
 simp
theorem c_Div64z (lo y:Int) (w:World) (h1:1<=y) (h2:y<18446744073709551616) (l0:0<=lo) (l1:lo<18446744073709551616):
  Cb 346 #[.int .u64 0,.int .u64 lo,.int .u64 y] w (.tuple #[.int .u64 (lo/y),.int .u64 (lo%y)]):=by
 have hy:¬y=0:=by omega
 have e1:IntKind.u64.wrap (lo.tdiv y)=lo/y:=IntWalk.u64_quo _ _ ⟨l0,by omega,h1⟩
 have e2:IntKind.u64.wrap (lo.tmod y)=lo%y:=by
  have a:=Int.emod_nonneg lo hy
  have b:=Int.emod_lt_of_pos lo (show 0<y by omega)
  rw[IntWalk.rem_in _ _ l0,IntWalk.u64_in _ (by omega)]
 have e3:lo.tmod y=lo%y:=IntWalk.rem_in _ _ l0
 have E:=Hd (And.intro e1 (And.intro e2 e3))
 clear e1 e2 e3
 go_enter Tryz.func346,Tryz.ntmps346
 go_wp2
 obtain⟨e1,e2,e3⟩:=E.out
 refine wp_region_nd 8 135 [] (fun W'=>Rex [] w W') mixed (by kernel_rfl) rfl (Rex.refl _ _).drew (fun w w' h0 hr=>h0.trans hr) (fun c a d v w h=>by cases d<;>exact h) ?_
 iterate 8
  apply nd_det (hg:=rfl) (hal:=rfl)
  ·intro a W' hC hE
   obtain _:=hC
   first
    |(simp at hE;simp[go_sem,Act.eval,iw,hE,hy,e1,e2,e3];try rfl)
    |(clear hE;simp[go_sem,Act.eval,iw,hy,e1,e2,e3];try rfl)
 rintro W2 hR
 simp only[ndFinR,Det,forall_eq]
 intros
 repeat (rename GDet _ _ _ _=>hgd;clear hgd)
 simp only[nS]
 refine wpList_nil ?_
 clear e1 e2 e3
 go_wp2
 go_ret2
 exact⟨rfl,hR.of_priv (Nat.le_refl _)⟩
theorem c_Div64 (hi lo y:Int) (w:World) (h0:0<=hi) (h1:hi<y) (h2:y<18446744073709551616) (l0:0<=lo) (l1:lo<18446744073709551616):
  Cb 346 #[.int .u64 hi,.int .u64 lo,.int .u64 y] w (.tuple #[.int .u64 ((hi*18446744073709551616+lo)/y),.int .u64 ((hi*18446744073709551616+lo)%y)]):=by
 rcases Int.lt_or_le 0 hi with h|h
 ·obtain⟨hi,rfl⟩:=Int.eq_ofNat_of_zero_le h0
  obtain⟨lo,rfl⟩:=Int.eq_ofNat_of_zero_le l0
  obtain⟨y,rfl⟩:=Int.eq_ofNat_of_zero_le (show 0<=y by omega)
  refine(c_Div64n hi lo y w (by omega) (by omega) (by omega) (by omega)).mono fun e w' ⟨he,hw⟩=>⟨?_,by rw[hw];exact Below.refl _ _⟩
  rw[he]
  simp
 ·obtain rfl:hi=0:=by omega
  have:=c_Div64z lo y w (by omega) h2 l0 l1
  simpa using this
def szHi (a:Int):Int:=(if 0<=a then a else-a)/18446744073709551616
def szLo (a:Int):Int:=(if 0<=a then a else-a)%18446744073709551616
theorem sz_pos (a:Int) (ha:W128 a) (h:0<=a):IntKind.u64.wrap (hiW a)=szHi a/\loW a=szLo a:=by
 unfold szHi szLo;rw[if_pos h,u64_eq];unfold hiW loW;obtain⟨_,_⟩:=ha;omega
theorem sz_neg (a:Int) (ha:W128 a) (h:a<0):difLo 0 (loW a) 0=szLo a/\difLo 0 (IntKind.u64.wrap (hiW a)) (difC 0 (loW a) 0)=szHi a:=by
 unfold szHi szLo;rw[if_neg (by omega),u64_eq];unfold difLo difC hiW loW;obtain⟨_,_⟩:=ha
 refine⟨by omega,?_⟩
 split<;>omega
theorem sz_bd (a:Int) (ha:W128 a):(0<=szHi a/\szHi a<18446744073709551616)/\(0<=szLo a/\szLo a<18446744073709551616):=by
 unfold szHi szLo;obtain⟨_,_⟩:=ha;split<;>omega
theorem size_pos (ah al:Int) (w:World) (h:0<=ah):
  Cb 325 #[.agg #[.int .i64 ah,.int .u64 al]] w (.tuple #[.int .u64 (IntKind.u64.wrap ah),.int .u64 al]):=by
 go_enter Tryz.func325,Tryz.ntmps325
 go_wp2
 refine wp_facts (fun W=>Below w.heap.size w W/\Blk W w.heap.size #[.int .i64 ah,.int .u64 al] 279) ⟨(Below.refl _ _).alloc (Nat.le_refl _) _,(by repeat (first|(refine Blk.new' ?_;simp;done)|refine Blk.alloc ?_ _))⟩ ?_
 rintro W ⟨hW,b1⟩
 refine wp_region_nd 7 32 [] (fun W'=>Rex [] W W'/\Blk W' w.heap.size #[.int .i64 ah,.int .u64 al] 279) mixed (by kernel_rfl) rfl ⟨(Rex.refl _ _).drew,b1⟩ (fun w w' ⟨h0,h1⟩ hr=>⟨h0.trans hr,h1.rex hr (by simp<;>omega)⟩) (fun c a d v w h=>by cases d<;>exact h) ?_
 iterate 7
  apply nd_det (hg:=rfl) (hal:=rfl)
  ·intro a W' hC hE
   obtain⟨_,k1⟩:=hC
   have k1:=k1.cell
   first
    |(simp at hE;simp[go_sem,Act.eval,iw,hE,k1];try rfl)
    |(clear hE;simp[go_sem,Act.eval,iw,k1];try rfl)
 rintro W2 ⟨hR,c1⟩
 simp only[ndFinR,Det,forall_eq]
 intros
 repeat (rename GDet _ _ _ _=>hgd;clear hgd)
 simp only[nS]
 refine wpList_nil ?_
 go_wp2
 go_ret2
 exact⟨rfl,hW.trans (hR.of_priv hW.size)⟩
theorem size_neg (ah al:Int) (w:World) (h:ah<0) (h1:0<=al) (h2:al<18446744073709551616):
  Cb 325 #[.agg #[.int .i64 ah,.int .u64 al]] w (.tuple #[.int .u64 (difLo 0 (IntKind.u64.wrap ah) (difC 0 al 0)),.int .u64 (difLo 0 al 0)]):=by
 have hc:=difC_bd 0 al 0
 have a1:=sub64 0 al 0 (by decide) (by decide) h1 h2 (by decide) (by decide)
 have U1:=u64_bd ah
 have a2:=sub64 0 (IntKind.u64.wrap ah) (difC 0 al 0) (by decide) (by decide) U1.1 U1.2 hc.1 hc.2
 clear hc h1 h2 U1
 go_enter Tryz.func325,Tryz.ntmps325
 go_wp2
 go_ret2
 exact⟨rfl,(Below.refl _ _).alloc (Nat.le_refl _) _⟩
theorem c_size (a:Int) (w:World) (ha:W128 a):
  Cb 325 #[wideV a] w (.tuple #[.int .u64 (szHi a),.int .u64 (szLo a)]):=by
 rcases Int.lt_or_le a 0 with h|h
 ·obtain⟨e1,e2⟩:=sz_neg a ha h
  rw[<-e1,<-e2]
  exact size_neg (hiW a) (loW a) w (by unfold hiW;omega) (loW_bd a).1 (loW_bd a).2
 ·obtain⟨e1,e2⟩:=sz_pos a ha h
  rw[<-e1,<-e2]
  exact size_pos (hiW a) (loW a) w (by unfold hiW;omega)
def ptQ (hi lo m:Int):Int:=(hi%m*18446744073709551616+lo)/m
def ptR (hi lo m:Int):Int:=(hi%m*18446744073709551616+lo)%m
theorem c_parts (hi lo m:Int) (w:World) (h0:0<=hi) (h1:hi<18446744073709551616) (l0:0<=lo) (l1:lo<18446744073709551616) (m0:1<=m) (m1:m<18446744073709551616):
  Cb 326 #[.int .u64 hi,.int .u64 lo,.int .u64 m] w (.tuple #[.int .u64 (hi/m),.int .u64 (ptQ hi lo m),.int .u64 (ptR hi lo m)]):=by
 have hn:=Int.emod_nonneg hi (show m≠0 by omega)
 have hl:=Int.emod_lt_of_pos hi (show 0<m by omega)
 have hc:=fun w=>c_Div64 (hi%m) lo m w hn hl m1 l0 l1
 go_enter Tryz.func326,Tryz.ntmps326
 go_wp2_with fail
 refine(hc _).mono ?_
 rintro e w1 ⟨rfl,hb1⟩
 clear hc
 go_wp2
 go_ret3
 exact⟨rfl,hb1⟩
def sgn (b:Bool) (n:Int):Int:=if b=true then-n else n
theorem signed_f (hi lo:Int) (w:World):
  Cb 327 #[.bool false,.int .u64 hi,.int .u64 lo] w (.tuple #[.agg #[.int .i64 (wrap64 hi),.int .u64 lo],.bool (decide (hi<9223372036854775808))]):=by
 go_enter Tryz.func327,Tryz.ntmps327
 go_wp2
 refine bodyPost_ret (v:= .tuple #[.agg #[.int .i64 (wrap64 hi),.int .u64 lo],.bool (decide (hi<9223372036854775808))]) (by simp[results,Tryz.results327,go_sem]) rfl ⟨rfl,?_⟩
 exact(Below.refl _ _).alloc (Nat.le_refl _) _
theorem signed_t (hi lo rh rl:Int) (f:Bool) (w:World) (hc:∀w,Cb 328 #[.agg #[.int .i64 0,.int .u64 0],.agg #[.int .i64 (wrap64 hi),.int .u64 lo]] w (.tuple #[.agg #[.int .i64 rh,.int .u64 rl],.bool f])):
  Cb 327 #[.bool true,.int .u64 hi,.int .u64 lo] w (.tuple #[.agg #[.int .i64 rh,.int .u64 rl],.bool (decide (hi<9223372036854775808)||(hi==9223372036854775808&&lo==0))]):=by
 go_enter Tryz.func327,Tryz.ntmps327
 go_wp2_with fail
 refine(hc _).mono ?_
 rintro e w1 ⟨rfl,hb1⟩
 obtain⟨hc1,hf1⟩:=bcell hb1
 have hz1:=hb1.size
 simp at hz1
 clear hc
 go_upto_region 4 with(fail)
 have hbk:Blk w1 w.heap.size #[.int .i64 0,.int .u64 0] 279:=(hb1.block _ (by simp)).trans (heap_alloc_new w _)
 refine wp_facts (fun W=>Below w.heap.size w W/\Blk W w.heap.size #[.int .i64 0,.int .u64 0] 279/\Blk W w1.heap.size #[.int .i64 rh,.int .u64 rl] 279) ?_ ?_
 ·have h0:Below w.heap.size w w1:=((Below.refl _ _).alloc (Nat.le_refl _) _).trans (hb1.mono (by simp))
  exact⟨h0.alloc (by omega) _,hbk.alloc _,Blk.new' rfl⟩
 clear hc1 hf1 hbk hb1
 rintro W ⟨hW,b1,b2⟩
 have hne:w1.heap.size≠w.heap.size:=by omega
 refine wp_region_sq 13 38 [(11,w.heap.size)] (fun W'=>Rex [w.heap.size] W W'/\Blk W' w1.heap.size #[.int .i64 rh,.int .u64 rl] 279) (by kernel_rfl) rfl ⟨(Rex.refl _ _),b2⟩ (fun w w' ⟨h0,h1⟩ hr=>⟨h0.trans hr,h1.rex hr (by simp<;>omega)⟩) ?_
 iterate 4
  apply nd_det (hg:=rfl) (hal:=rfl)
  ·intro a W' hC hE
   obtain⟨_,k1⟩:=hC
   have k1:=k1.cell
   first
    |(simp at hE;simp[go_sem,Act.eval,iw,hE,k1];try rfl)
    |(clear hE;simp[go_sem,Act.eval,iw,k1];try rfl)
 iterate 3
  apply nd_detg (p:=true) (hg:=rfl) (hd:=rfl) (hal:=rfl)
  ·intro v W' h
   simp[envOf,Det,GDet] at h
   simp
   exact h
  ·intro hp hx a W' hC hE
   obtain⟨_,k1⟩:=hC
   have k1:=k1.cell
   simp[hx] at hE
   simp[go_sem,Act.eval,iw,hE,k1]
   try rfl
 iterate 2
  apply nd_detg (p:=_) (hg:=rfl) (hd:=rfl) (hal:=rfl)
  ·intro v W' h
   exact h
  ·intro hp hx a W' hC hE
   obtain⟨_,k1⟩:=hC
   have k1:=k1.cell
   try simp at hp
   try simp at hx
   simp[hp,hx] at hE
   simp[go_sem,Act.eval,iw,hE,k1]
   try rfl
 apply nd_pickg_and (p:=true) (ho:=rfl) (hg:=rfl) (hd:=rfl)
 ·intro v W' h
  simp[envOf,Det,GDet] at h
  simp
  exact h
 ·intro _ hx v W' h
  simp[hx] at h
  exact h
 ·intro _ hx v W' h hy
  simp[hx,hy] at h
  exact h
 apply nd_pick_or (ho:=rfl) (hg:=rfl)
 ·intro v W' h
  simp at h
  exact h
 ·intro v W' h hx
  simp[hx] at h
  exact h
 apply nd_storeA (w.heap.size) #[.int .i64 0,.int .u64 0] #[.int .i64 rh,.int .u64 rl] 279 279 _ _ rfl rfl rfl (by simp[others]) rfl (by kernel_rfl) (by simp[Value.oneCell'])
 ·exact fun W' hC=>b1.shape hC.1 (by simp)
 ·intro a W' hE
  simp[Oper.looksAt,Op.operands,envOf,Det] at hE
  simp[Act.eval,hE]
 iterate 1
  apply nd_det (hg:=rfl) (hal:=rfl)
  ·intro a W' hC hE
   obtain⟨_,k1⟩:=hC
   have k1:=k1.cell
   first
    |(simp at hE;simp[go_sem,Act.eval,iw,hE,k1];try rfl)
    |(clear hE;simp[go_sem,Act.eval,iw,k1];try rfl)
 rintro W2 ⟨hR,c1⟩
 simp only[ndFinR,Det,forall_eq]
 intros
 repeat (rename GDet _ _ _ _=>hgd;clear hgd)
 simp only[nS]
 refine wpList_nil ?_
 go_wp2
 exact bodyPost_ret (results_ct (d:=(Tryz.prog.underlying 279).getD default) rfl rfl (by assumption) (by kernel_rfl) (by kernel_rfl) (by kernel_rfl)) rfl ⟨rfl,hW.trans (hR.of_priv hW.size)⟩
theorem sg_f (hi lo:Int) (h0:0<=hi) (h1:hi<18446744073709551616) (l0:0<=lo) (l1:lo<18446744073709551616):
  wrap64 hi=hiW (wrapW (hi*18446744073709551616+lo))/\lo=loW (wrapW (hi*18446744073709551616+lo))/\decide (hi<9223372036854775808)=inW (hi*18446744073709551616+lo):=by
 rw[wrap64_eq]
 refine⟨by unfold hiW wrapW;omega,by unfold loW wrapW;omega,?_⟩
 unfold inW
 rw[decide_eq_decide]
 unfold W128
 omega
theorem sg_t (hi lo:Int) (h0:0<=hi) (h1:hi<18446744073709551616) (l0:0<=lo) (l1:lo<18446744073709551616):
  wrapW (0-wrapW (hi*18446744073709551616+lo))=wrapW (-(hi*18446744073709551616+lo))/\(decide (hi<9223372036854775808)||(hi==9223372036854775808&&lo==0))=inW (-(hi*18446744073709551616+lo)):=by
 refine⟨by unfold wrapW;omega,?_⟩
 unfold inW
 by_cases h:W128 (-(hi*18446744073709551616+lo))
 ·rw[decide_eq_true h]
  unfold W128 at h
  by_cases h2:hi<9223372036854775808
  ·simp[h2]
  ·have a:hi=9223372036854775808:=by omega
   have b:lo=0:=by omega
   simp[a,b]
 ·rw[decide_eq_false h]
  unfold W128 at h
  have a:¬hi<9223372036854775808:=by omega
  have b:¬(hi=9223372036854775808/\lo=0):=by omega
  simp only[decide_eq_false a,Bool.false_or]
  rw[Bool.eq_false_iff]
  intro h3
  simp only[Bool.and_eq_true,beq_iff_eq] at h3
  exact b h3
theorem c_signed (b:Bool) (hi lo:Int) (w:World) (h0:0<=hi) (h1:hi<18446744073709551616) (l0:0<=lo) (l1:lo<18446744073709551616):
  Calls Tryz.prog 327 #[.bool b,.int .u64 hi,.int .u64 lo] w fun e w'=>
   e= .returned (.tuple #[wideV (wrapW (sgn b (hi*18446744073709551616+lo))),.bool (inW (sgn b (hi*18446744073709551616+lo)))])/\Below w.heap.size w w':=by
 obtain⟨e1,e2,e3⟩:=sg_f hi lo h0 h1 l0 l1
 cases b with
 |false=>
  have:=signed_f hi lo w
  show Calls _ _ _ _ fun e w'=>e= .returned (.tuple #[wideV (wrapW (hi*18446744073709551616+lo)),.bool (inW (hi*18446744073709551616+lo))])/\Below w.heap.size w w'
  unfold wideV
  rw[<-e1,<-e2,<-e3]
  exact this
 |true=>
  obtain⟨f1,f2⟩:=sg_t hi lo h0 h1 l0 l1
  show Calls _ _ _ _ fun e w'=>e= .returned (.tuple #[wideV (wrapW (-(hi*18446744073709551616+lo))),.bool (inW (-(hi*18446744073709551616+lo)))])/\Below w.heap.size w w'
  rw[<-f2]
  unfold wideV
  refine signed_t hi lo _ _ (inW (0-wrapW (hi*18446744073709551616+lo))) w fun w=> ?_
  have:=c_difference 0 (wrapW (hi*18446744073709551616+lo)) w (by decide) (W128_wrap _)
  rw[f1] at this
  rw[wide0] at this
  unfold wideV at this
  rw[<-e1,<-e2] at this
  exact this
structure DivOut (a m q1 q0 rest:Int):Prop where
 q1b:0<=q1/\q1<18446744073709551616
 q0b:0<=q0/\q0<18446744073709551616
 rb:0<=rest/\rest<m
 eq:(q1*18446744073709551616+q0)*m+rest=(if 0<=a then a else-a)
theorem div_out (a m:Int) (ha:W128 a) (hm:1<=m) (hm':m<=9223372036854775807):DivOut a m (szHi a/m) (ptQ (szHi a) (szLo a) m) (ptR (szHi a) (szLo a) m):=by
 obtain⟨⟨h1,h2⟩,h3,h4⟩:=sz_bd a ha
 have e:szHi a*18446744073709551616+szLo a=(if 0<=a then a else-a):=by unfold szHi szLo;omega
 unfold ptQ ptR
 generalize szHi a=H at*
 generalize szLo a=L at*
 have a1:=Int.emod_add_mul_ediv H m
 have a2:=Int.emod_nonneg H (show m≠0 by omega)
 have a3:=Int.emod_lt_of_pos H (show 0<m by omega)
 have b1:=Int.emod_add_mul_ediv (H%m*18446744073709551616+L) m
 have b2:=Int.emod_nonneg (H%m*18446744073709551616+L) (show m≠0 by omega)
 have b3:=Int.emod_lt_of_pos (H%m*18446744073709551616+L) (show 0<m by omega)
 have c1:0<=H/m:=Int.ediv_nonneg h1 (by omega)
 have c2:H/m<=H:=Int.ediv_le_self _ h1
 refine⟨⟨c1,by omega⟩,⟨Int.ediv_nonneg (by omega) (by omega),Int.ediv_lt_of_lt_mul (by omega) (by omega)⟩,⟨b2,b3⟩,?_⟩
 rw[<-e,Int.add_mul,Int.mul_right_comm,Int.mul_comm (H/m) m,Int.mul_comm _ m]
 omega
theorem div_floor {a m q r:Int} (hm:1<=m) (h:m*q+r=a) (h0:0<=r) (h1:r<m):q=a/m/\r=a%m:=by
 subst h
 refine⟨?_,?_⟩
 ·rw[Int.add_comm,Int.add_mul_ediv_left _ _ (by omega),Int.ediv_eq_zero_of_lt h0 h1];omega
 ·rw[Int.add_comm,Int.add_mul_emod_self_left,Int.emod_eq_of_lt h0 h1]
theorem DivOut.pos {a m q1 q0 rest:Int} (D:DivOut a m q1 q0 rest) (ha:W128 a) (hm:1<=m) (h:0<=a):wrapW (sgn false (q1*18446744073709551616+q0))=a/m/\rest=a%m:=by
 have e:=D.eq
 rw[if_pos h,Int.mul_comm] at e
 obtain⟨f1,f2⟩:=div_floor hm e D.rb.1 D.rb.2
 refine⟨?_,f2⟩
 show wrapW (q1*18446744073709551616+q0)=a/m
 have g1:a/m<=a:=Int.ediv_le_self _ h
 have g2:0<=a/m:=Int.ediv_nonneg h (by omega)
 rw[f1]
 exact wrapW_in ⟨by omega,by have:=ha.2;omega⟩
theorem DivOut.neg0 {a m q1 q0 rest:Int} (D:DivOut a m q1 q0 rest) (ha:W128 a) (hm:1<=m) (h:a<0) (hr:rest=0):wrapW (sgn true (q1*18446744073709551616+q0))=a/m/\rest=a%m:=by
 have e:=D.eq
 rw[if_neg (by omega),Int.mul_comm] at e
 have e':m*(-(q1*18446744073709551616+q0))+0=a:=by rw[Int.mul_neg];omega
 obtain⟨f1,f2⟩:=div_floor hm e' (Int.le_refl 0) (by omega)
 refine⟨?_,by omega⟩
 show wrapW (-(q1*18446744073709551616+q0))=a/m
 have g1:q1*18446744073709551616+q0<=m*(q1*18446744073709551616+q0):=by
  have:=Int.mul_le_mul_of_nonneg_right hm (show 0<=q1*18446744073709551616+q0 by have:=D.q1b;have:=D.q0b;omega)
  omega
 rw[<-f1]
 exact wrapW_in ⟨by have:=ha.1;omega,by have:=D.q1b;have:=D.q0b;omega⟩
theorem DivOut.neg1 {a m q1 q0 rest:Int} (D:DivOut a m q1 q0 rest) (ha:W128 a) (hm:1<=m) (h:a<0) (hr:0<rest):wrapW (wrapW (sgn true (q1*18446744073709551616+q0))-1)=a/m/\m-rest=a%m:=by
 have e:=D.eq
 rw[if_neg (by omega),Int.mul_comm] at e
 have e':m*(-(q1*18446744073709551616+q0)-1)+(m-rest)=a:=by rw[Int.mul_sub,Int.mul_neg];omega
 obtain⟨f1,f2⟩:=div_floor hm e' (by have:=D.rb;omega) (by omega)
 refine⟨?_,f2⟩
 show wrapW (wrapW (-(q1*18446744073709551616+q0))-1)=a/m
 have g1:q1*18446744073709551616+q0<=m*(q1*18446744073709551616+q0):=by
  have:=Int.mul_le_mul_of_nonneg_right hm (show 0<=q1*18446744073709551616+q0 by have:=D.q1b;have:=D.q0b;omega)
  omega
 have g2:m*(q1*18446744073709551616+q0)< -a:=by omega
 have w1:wrapW (-(q1*18446744073709551616+q0))= -(q1*18446744073709551616+q0):=wrapW_in ⟨by have:=ha.1;omega,by have:=D.q1b;have:=D.q0b;omega⟩
 rw[<-f1,w1]
 exact wrapW_in ⟨by have:=ha.1;omega,by have:=D.q1b;have:=D.q0b;omega⟩
theorem div_pos (ah al m sH sL q1 q0 rest qh ql:Int) (f:Bool) (w:World) (m1:1<=m) (m2:m<=9223372036854775807) (h:0<=ah) (r1:0<=rest) (r2:rest<m)
  (c1:∀w,Cb 325 #[.agg #[.int .i64 ah,.int .u64 al]] w (.tuple #[.int .u64 sH,.int .u64 sL]))
  (c2:∀w,Cb 326 #[.int .u64 sH,.int .u64 sL,.int .u64 m] w (.tuple #[.int .u64 q1,.int .u64 q0,.int .u64 rest]))
  (c3:∀w,Cb 327 #[.bool false,.int .u64 q1,.int .u64 q0] w (.tuple #[.agg #[.int .i64 qh,.int .u64 ql],.bool f])):
  Cb 291 #[.agg #[.int .i64 ah,.int .u64 al],.int .i64 m] w (.tuple #[.agg #[.int .i64 qh,.int .u64 ql],.int .i64 rest,.int .i64 0]):=by
 have hd:decide (ah<0)=false:=by simp;omega
 go_enter Tryz.func291,Tryz.ntmps291
 go_wp2_with fail
 refine(c1 _).mono ?_
 rintro e w1 ⟨rfl,hb1⟩
 obtain⟨hc1,hf1⟩:=bcell hb1
 have hz1:=hb1.size
 simp at hz1
 go_wp2_with fail
 refine(c2 _).mono ?_
 rintro e w2 ⟨rfl,hb2⟩
 obtain⟨hc2,hf2⟩:=bcell hb2
 have hz2:=hb2.size
 have y1:w.heap.size<w1.heap.size:=by omega
 have y2:w.heap.size+1<w1.heap.size:=by omega
 go_wp2_with fail
 refine(c3 _).mono ?_
 rintro e w3 ⟨rfl,hb3⟩
 obtain⟨hc3,hf3⟩:=bcell hb3
 have hz3:=hb3.size
 have x1:w.heap.size<w2.heap.size:=by omega
 have x2:w.heap.size+1<w2.heap.size:=by omega
 have u1:w.heap.size<w3.heap.size:=by omega
 have u2:w.heap.size+1<w3.heap.size:=by omega
 have h0:Below w.heap.size w w3:=(((((Below.refl _ _).alloc (Nat.le_refl _) _).alloc (by simp) _).trans (hb1.mono (by simp;omega))).trans (hb2.mono (by omega))).trans (hb3.mono (by omega))
 have H0:=Hd h0
 clear c1 c2 c3 h0
 go_wp2
 refine bodyPost_ret (v:= .tuple #[.agg #[.int .i64 qh,.int .u64 ql],.int .i64 rest,.int .i64 0]) (by simp[results,Tryz.results291,go_sem,hc1,hc2,hc3,u1,u2,x1,x2,y1,y2]) rfl ⟨rfl,?_⟩
 exact(have hUp:=H0.out;belowAny)
theorem div_neg0 (ah al m sH sL q1 q0 rest qh ql:Int) (f:Bool) (w:World) (m1:1<=m) (m2:m<=9223372036854775807) (h:ah<0) (hr:rest<=0) (r1:0<=rest) (r2:rest<m)
  (c1:∀w,Cb 325 #[.agg #[.int .i64 ah,.int .u64 al]] w (.tuple #[.int .u64 sH,.int .u64 sL]))
  (c2:∀w,Cb 326 #[.int .u64 sH,.int .u64 sL,.int .u64 m] w (.tuple #[.int .u64 q1,.int .u64 q0,.int .u64 rest]))
  (c3:∀w,Cb 327 #[.bool true,.int .u64 q1,.int .u64 q0] w (.tuple #[.agg #[.int .i64 qh,.int .u64 ql],.bool f])):
  Cb 291 #[.agg #[.int .i64 ah,.int .u64 al],.int .i64 m] w (.tuple #[.agg #[.int .i64 qh,.int .u64 ql],.int .i64 rest,.int .i64 0]):=by
 have hd:decide (ah<0)=true:=by simp;omega
 go_enter Tryz.func291,Tryz.ntmps291
 go_wp2_with fail
 refine(c1 _).mono ?_
 rintro e w1 ⟨rfl,hb1⟩
 obtain⟨hc1,hf1⟩:=bcell hb1
 have hz1:=hb1.size
 simp at hz1
 go_wp2_with fail
 refine(c2 _).mono ?_
 rintro e w2 ⟨rfl,hb2⟩
 obtain⟨hc2,hf2⟩:=bcell hb2
 have hz2:=hb2.size
 have y1:w.heap.size<w1.heap.size:=by omega
 have y2:w.heap.size+1<w1.heap.size:=by omega
 go_wp2_with fail
 refine(c3 _).mono ?_
 rintro e w3 ⟨rfl,hb3⟩
 obtain⟨hc3,hf3⟩:=bcell hb3
 have hz3:=hb3.size
 have x1:w.heap.size<w2.heap.size:=by omega
 have x2:w.heap.size+1<w2.heap.size:=by omega
 have u1:w.heap.size<w3.heap.size:=by omega
 have u2:w.heap.size+1<w3.heap.size:=by omega
 have h0:Below w.heap.size w w3:=(((((Below.refl _ _).alloc (Nat.le_refl _) _).alloc (by simp) _).trans (hb1.mono (by simp;omega))).trans (hb2.mono (by omega))).trans (hb3.mono (by omega))
 have H0:=Hd h0
 clear c1 c2 c3 h0
 go_wp2
 refine bodyPost_ret (v:= .tuple #[.agg #[.int .i64 qh,.int .u64 ql],.int .i64 rest,.int .i64 0]) (by simp[results,Tryz.results291,go_sem,hc1,hc2,hc3,u1,u2,x1,x2,y1,y2]) rfl ⟨rfl,?_⟩
 exact(have hUp:=H0.out;belowAny)
theorem div_neg1 (ah al m sH sL q1 q0 rest qh ql zh zl:Int) (f:Bool) (w:World) (m1:1<=m) (m2:m<=9223372036854775807) (h:ah<0) (hr:0<rest) (r1:0<=rest) (r2:rest<m)
  (c1:∀w,Cb 325 #[.agg #[.int .i64 ah,.int .u64 al]] w (.tuple #[.int .u64 sH,.int .u64 sL]))
  (c2:∀w,Cb 326 #[.int .u64 sH,.int .u64 sL,.int .u64 m] w (.tuple #[.int .u64 q1,.int .u64 q0,.int .u64 rest]))
  (c3:∀w,Cb 327 #[.bool true,.int .u64 q1,.int .u64 q0] w (.tuple #[.agg #[.int .i64 qh,.int .u64 ql],.bool f]))
  (c4:∀w,Cb 328 #[.agg #[.int .i64 qh,.int .u64 ql],.agg #[.int .i64 0,.int .u64 1]] w (.tuple #[.agg #[.int .i64 zh,.int .u64 zl],.bool true])):
  Cb 291 #[.agg #[.int .i64 ah,.int .u64 al],.int .i64 m] w (.tuple #[.agg #[.int .i64 zh,.int .u64 zl],.int .i64 (m-rest),.int .i64 0]):=by
 have hd:decide (ah<0)=true:=by simp;omega
 go_enter Tryz.func291,Tryz.ntmps291
 go_wp2_with fail
 refine(c1 _).mono ?_
 rintro e w1 ⟨rfl,hb1⟩
 obtain⟨hc1,hf1⟩:=bcell hb1
 have hz1:=hb1.size
 simp at hz1
 go_wp2_with fail
 refine(c2 _).mono ?_
 rintro e w2 ⟨rfl,hb2⟩
 obtain⟨hc2,hf2⟩:=bcell hb2
 have hz2:=hb2.size
 have y1:w.heap.size<w1.heap.size:=by omega
 have y2:w.heap.size+1<w1.heap.size:=by omega
 go_wp2_with fail
 refine(c3 _).mono ?_
 rintro e w3 ⟨rfl,hb3⟩
 obtain⟨hc3,hf3⟩:=bcell hb3
 have hz3:=hb3.size
 have x1:w.heap.size<w2.heap.size:=by omega
 have x2:w.heap.size+1<w2.heap.size:=by omega
 have u1:w.heap.size<w3.heap.size:=by omega
 have u2:w.heap.size+1<w3.heap.size:=by omega
 have h0:Below w.heap.size w w3:=(((((Below.refl _ _).alloc (Nat.le_refl _) _).alloc (by simp) _).trans (hb1.mono (by simp;omega))).trans (hb2.mono (by omega))).trans (hb3.mono (by omega))
 have H0:=Hd h0
 clear c1 c2 c3 h0
 go_upto_region 7 with(fail)
 have hbk:Blk w3 (w.heap.size+1) #[.int .i64 0,.int .u64 0] 279:=(hb3.block _ (by omega)).trans ((hb2.block _ (by omega)).trans ((hb1.block (w.heap.size+1) (by simp)).trans (Blk.new' (by simp))))
 refine wp_facts (fun W=>Below w.heap.size w W/\Blk W (w.heap.size+1) #[.int .i64 0,.int .u64 0] 279/\Blk W w3.heap.size #[.int .i64 qh,.int .u64 ql] 279) ?_ ?_
 ·exact⟨H0.out.alloc (by omega) _,hbk.alloc _,Blk.new' rfl⟩
 clear hc1 hf1 hbk hb1 hc2 hf2 hb2 hc3 hf3 hb3
 rintro W ⟨hW,b1,b2⟩
 refine wp_region_nd 6 58 [] (fun W'=>Rex [] W W'/\Blk W' (w.heap.size+1) #[.int .i64 0,.int .u64 0] 279/\Blk W' w3.heap.size #[.int .i64 qh,.int .u64 ql] 279) mixed (by kernel_rfl) rfl ⟨(Rex.refl _ _).drew,b1,b2⟩ (fun w w' ⟨h0,h1,h2⟩ hr=>⟨h0.trans hr,h1.rex hr (by simp<;>omega),h2.rex hr (by simp<;>omega)⟩) (fun c a d v w h=>by cases d<;>exact h) ?_
 iterate 1
  apply nd_det (hg:=rfl) (hal:=rfl)
  ·intro a W' hC hE
   obtain⟨_,k1,k2⟩:=hC
   have k1:=k1.cell
   have k2:=k2.cell
   first
    |(simp at hE;simp[go_sem,Act.eval,iw,hE,k1,k2];try rfl)
    |(clear hE;simp[go_sem,Act.eval,iw,k1,k2];try rfl)
 refine nd_callv2 rfl rfl (fun W' hC=>c_Of 1 W' (by decide)) (fun a W' hC hE=> ?_) ?_
 ·obtain⟨_,k1,k2⟩:=hC
  have k1:=k1.cell
  have k2:=k2.cell
  first
   |(simp at hE;simp[go_sem,Act.eval,iw,hE,k1,k2];try rfl)
   |(clear hE;simp[go_sem,Act.eval,iw,k1,k2];try rfl)
 rw[show wideV 1= .agg #[.int .i64 0,.int .u64 1] from rfl]
 refine nd_callv2 rfl rfl (fun W' hC=>c4 W') (fun a W' hC hE=> ?_) ?_
 ·obtain⟨_,k1,k2⟩:=hC
  have k1:=k1.cell
  have k2:=k2.cell
  first
   |(simp at hE;simp[go_sem,Act.eval,iw,hE,k1,k2];try rfl)
   |(clear hE;simp[go_sem,Act.eval,iw,k1,k2];try rfl)
 iterate 3
  apply nd_det (hg:=rfl) (hal:=rfl)
  ·intro a W' hC hE
   obtain⟨_,k1,k2⟩:=hC
   have k1:=k1.cell
   have k2:=k2.cell
   first
    |(simp at hE;simp[go_sem,Act.eval,iw,hE,k1,k2];try rfl)
    |(clear hE;simp[go_sem,Act.eval,iw,k1,k2];try rfl)
 rintro W2 ⟨hR,c1,c2⟩
 simp only[ndFinR,Det,forall_eq]
 intros
 repeat (rename GDet _ _ _ _=>hgd;clear hgd)
 simp only[nS]
 clear c4
 have k1:=c1.cell
 have k2:=c2.cell
 have k3:=c2.frozen
 have k4:=c1.frozen
 go_wp2
 refine bodyPost_ret (v:= .tuple #[.agg #[.int .i64 zh,.int .u64 zl],.int .i64 (m-rest),.int .i64 0]) (by simp[results,Tryz.results291,go_sem,k1,k2,k3,k4]) rfl ⟨rfl,?_⟩
 have hR':=hW.trans (hR.of_priv hW.size)
 exact(have hUp:=hR';belowAny)
end Go.Proofs.YtpdhdjlhicceoaaGreatDoor
namespace Go.Proofs.YtpdhdjlhicceoaaGreatDoor
open Go.RowKit
theorem I64.w {n:Int} (h:I64 n):W128 n:=W128_small h
theorem c_Div (a m:Int) (w:World) (ha:W128 a) (hm:1<=m) (hm':m<=9223372036854775807):
  Cb 291 #[wideV a,.int .i64 m] w (.tuple #[wideV (a/m),.int .i64 (a%m),.int .i64 0]):=by
 have D:=div_out a m ha hm hm'
 obtain⟨⟨s1,s2⟩,s3,s4⟩:=sz_bd a ha
 have c1:=fun w=>c_size a w ha
 have c2:=fun w=>c_parts (szHi a) (szLo a) m w s1 s2 s3 s4 hm (by omega)
 have c3:=fun b w=>c_signed b (szHi a/m) (ptQ (szHi a) (szLo a) m) w D.q1b.1 D.q1b.2 D.q0b.1 D.q0b.2
 have hs:(hiW a<0)↔a<0:=by obtain⟨_,_⟩:=ha;unfold hiW;omega
 rcases Int.lt_or_le a 0 with h|h
 ·rcases Int.lt_or_le 0 (ptR (szHi a) (szLo a) m) with hr|hr
  ·obtain⟨e1,e2⟩:=D.neg1 ha hm h hr
   rw[<-e1,<-e2]
   have c4:=fun w=>c_difference (wrapW (sgn true (szHi a/m*18446744073709551616+ptQ (szHi a) (szLo a) m))) 1 w (W128_wrap _) (by decide)
   rw[inW_in (n:=wrapW (sgn true (szHi a/m*18446744073709551616+ptQ (szHi a) (szLo a) m))-1) (by
    have:=ha.1;have:=wrapW_in (n:=wrapW (sgn true (szHi a/m*18446744073709551616+ptQ (szHi a) (szLo a) m))-1)
    have e3:=D.eq
    have:=D.q1b;have:=D.q0b;have:=D.rb
    have g1:szHi a/m*18446744073709551616+ptQ (szHi a) (szLo a) m<=(szHi a/m*18446744073709551616+ptQ (szHi a) (szLo a) m)*m:=by
     have:=Int.mul_le_mul_of_nonneg_left hm (show 0<=szHi a/m*18446744073709551616+ptQ (szHi a) (szLo a) m by omega)
     omega
    rw[if_neg (by omega)] at e3
    have e4:wrapW (sgn true (szHi a/m*18446744073709551616+ptQ (szHi a) (szLo a) m))= -(szHi a/m*18446744073709551616+ptQ (szHi a) (szLo a) m):=wrapW_in (show W128 (-(szHi a/m*18446744073709551616+ptQ (szHi a) (szLo a) m)) from ⟨by omega,by omega⟩)
    rw[e4]
    exact⟨by omega,by omega⟩)] at c4
   exact div_neg1 _ _ m _ _ _ _ _ _ _ _ _ (inW _) w hm hm' (hs.2 h) hr D.rb.1 D.rb.2 c1 c2 (c3 true) c4
  ·obtain⟨e1,e2⟩:=D.neg0 ha hm h (by have:=D.rb.1;omega)
   rw[<-e1,<-e2]
   exact div_neg0 _ _ m _ _ _ _ _ _ _ (inW _) w hm hm' (hs.2 h) hr D.rb.1 D.rb.2 c1 c2 (c3 true)
 ·obtain⟨e1,e2⟩:=D.pos ha hm h
  rw[<-e1,<-e2]
  exact div_pos _ _ m _ _ _ _ _ _ _ (inW _) w hm hm' (by omega) D.rb.1 D.rb.2 c1 c2 (c3 false)
attribute [local simp] Oper.looksAt Op.operands Call.operands envOf Det GDet
def isBack (v:Int):Bool:=decide (-2305844108725321728<=v)&&decide (v<=2305844108725321728)
def isSlope (n d:Int):Bool:=decide (1<=d)&&decide (d<=281474976710656)&&decide (-4611688217450643456<=n)&&decide (n<=4611688217450643456)
theorem c_back (v:Int) (w:World):
  Cb 232 #[.int .i64 v] w (.bool (isBack v)):=by
 unfold isBack
 go_enter Tryz.func232,Tryz.ntmps232
 go_upto_region 1 with(fail)
 refine wp_region_sq 7 9 [] (fun W'=>Rex [] w W') (by kernel_rfl) rfl (Rex.refl _ _) (fun w w' h0 hr=>h0.trans hr) ?_
 iterate 3
  apply nd_det (hg:=rfl) (hal:=rfl)
  ·intro a W' hC hE
   obtain _:=hC
   first
    |(simp at hE;simp[go_sem,Act.eval,iw,hE];try rfl)
    |(clear hE;simp[go_sem,Act.eval,iw];try rfl)
 iterate 2
  apply nd_detg (p:=true) (hg:=rfl) (hd:=rfl) (hal:=rfl)
  ·intro v W' h
   simp[envOf,Det,GDet] at h
   simp
   exact h
  ·intro hp hx a W' hC hE
   obtain _:=hC
   simp[hx] at hE
   simp[go_sem,Act.eval,iw,hE]
   try rfl
 apply nd_pick_and (ho:=rfl) (hg:=rfl)
 ·intro v W' h
  simp at h
  exact h
 ·intro v W' h hx
  simp[hx] at h
  exact h
 iterate 1
  apply nd_det (hg:=rfl) (hal:=rfl)
  ·intro a W' hC hE
   obtain _:=hC
   first
    |(simp at hE;simp[go_sem,Act.eval,iw,hE];try rfl)
    |(clear hE;simp[go_sem,Act.eval,iw];try rfl)
 rintro W2 hR
 simp only[ndFinR,Det,forall_eq]
 intros
 repeat (rename GDet _ _ _ _=>hgd;clear hgd)
 simp only[nS]
 refine wpList_nil ?_
 go_wp2
 go_ret
 exact⟨rfl,hR.of_priv (Nat.le_refl _)⟩
theorem c_slopeIs (n d:Int) (w:World):
  Cb 233 #[.agg #[.int .i64 n,.int .i64 d]] w (.bool (isSlope n d)):=by
 unfold isSlope
 go_enter Tryz.func233,Tryz.ntmps233
 go_upto_region 1 with(fail)
 refine wp_facts (fun W=>Below w.heap.size w W/\Blk W w.heap.size #[.int .i64 n,.int .i64 d] 186) ⟨(Below.refl _ _).alloc (Nat.le_refl _) _,(by repeat (first|(refine Blk.new' ?_;simp;done)|refine Blk.alloc ?_ _))⟩ ?_
 rintro W ⟨hW,b1⟩
 refine wp_region_sq 19 21 [] (fun W'=>Rex [] W W'/\Blk W' w.heap.size #[.int .i64 n,.int .i64 d] 186) (by kernel_rfl) rfl ⟨(Rex.refl _ _),b1⟩ (fun w w' ⟨h0,h1⟩ hr=>⟨h0.trans hr,h1.rex hr (by simp<;>omega)⟩) ?_
 iterate 19
  first
  |(
   apply nd_det (hg:=rfl) (hal:=rfl)
   ·intro a W' hC hE
    obtain⟨_,k1⟩:=hC
    have k1:=k1.cell
    first
     |(simp at hE;simp[go_sem,Act.eval,iw,hE,k1];try rfl)
     |(clear hE;simp[go_sem,Act.eval,iw,k1];try rfl))
  |(
   apply nd_detg (p:=true) (hg:=rfl) (hd:=rfl) (hal:=rfl)
   ·intro v W' h
    simp[envOf,Det,GDet] at h
    simp
    exact h
   ·intro hp hx a W' hC hE
    obtain⟨_,k1⟩:=hC
    have k1:=k1.cell
    simp[hx] at hE
    simp[go_sem,Act.eval,iw,hE,k1]
    try rfl)
  |(
   apply nd_pick_and (ho:=rfl) (hg:=rfl)
   ·intro v W' h
    simp at h
    exact h
   ·intro v W' h hx
    simp[hx] at h
    exact h)
 rintro W2 ⟨hR,c1⟩
 simp only[ndFinR,Det,forall_eq]
 intros
 repeat (rename GDet _ _ _ _=>hgd;clear hgd)
 simp only[nS]
 refine wpList_nil ?_
 go_wp2
 go_ret
 exact⟨rfl,hW.trans (hR.of_priv hW.size)⟩
def intAt:Value->Int| .int _ q=>q|_=>0
structure GcdAt (a b m n:Int):Prop where
 m0:0<=m
 m1:m<=9223372036854775807
 n0:0<=n
 n1:n<=9223372036854775807
 eq:Nat.gcd m.natAbs n.natAbs=Nat.gcd a.natAbs b.natAbs
theorem GcdAt.pos {a b:Int} (ha: -9223372036854775807<=a/\a<=9223372036854775807) (hb:0<=b/\b<=9223372036854775807) (h:0<=a):GcdAt a b a b:=⟨h,ha.2,hb.1,hb.2,rfl⟩
theorem GcdAt.neg {a b:Int} (ha: -9223372036854775807<=a/\a<=9223372036854775807) (hb:0<=b/\b<=9223372036854775807) (h:a<=0):GcdAt a b (-a) b:=⟨by omega,by omega,hb.1,hb.2,by rw[Int.natAbs_neg]⟩
theorem GcdAt.done {a b n:Int} (h:GcdAt a b 0 n):n=(Nat.gcd a.natAbs b.natAbs:Int):=by
 rw[<-h.eq];have:=h.n0;simp;omega
theorem GcdAt.step {a b m n:Int} (h:GcdAt a b m n) (hm:¬m=0):GcdAt a b (n.tmod m) m/\(n.tmod m).toNat<m.toNat:=by
 have h0:=h.m0;have h1:=h.n0
 have e:n.tmod m=n%m:=Int.tmod_eq_emod_of_nonneg h1
 have l1:=Int.emod_nonneg n hm
 have l2:=Int.emod_lt_of_pos n (show 0<m by omega)
 have:=h.m1
 rw[e]
 refine⟨⟨l1,by omega,h0,h.m1,?_⟩,by omega⟩
 rw[<-h.eq]
 obtain⟨m,rfl⟩:=Int.eq_ofNat_of_zero_le h0
 obtain⟨n,rfl⟩:=Int.eq_ofNat_of_zero_le h1
 exact(Nat.gcd_rec m n).symm
theorem GcdAt.stepE {a b m n:Int} (h:GcdAt a b m n) (hm:¬m=0):GcdAt a b (n%m) m/\(n%m).toNat<m.toNat:=by
 have:=h.step hm
 rwa [Int.tmod_eq_emod_of_nonneg h.n0] at this
theorem c_divisor (a b:Int) (w:World) (ha: -9223372036854775807<=a/\a<=9223372036854775807) (hb:0<=b/\b<=9223372036854775807):
  Calls Tryz.prog 290 #[.int .i64 a,.int .i64 b] w fun e w'=>e= .returned (.int .i64 (Nat.gcd a.natAbs b.natAbs))/\w'=w:=by
 go_enter Tryz.func290,Tryz.ntmps290
 go_wp2
 refine wp_scope_jumps 0 (fun a' w'=>w'=w/\∃(m n:Int) (u2 u3 u5 u6 u7 u8 u9 u10 u11 u12 u13 u14 u15:Value),a'= {tmps:= #[.int .i64 m,.int .i64 n,u2,u3,.int .i64 0,u5,u6,u7,u8,u9,u10,u11,u12,u13,u14,u15],defers:= []}/\GcdAt a b m n) (fun a' _=>(intAt (a'.tmps.getD 0 undef)).toNat) rfl ?_ ?_
 ·rcases Int.lt_trichotomy a 0 with h|h|h
  ·have h1:¬(-a=0):=by omega
   have h2:¬a=0:=by omega
   go_wp2
   go_step3
   go_wp2
   go_step3
   exact⟨rfl,rfl,_,_,_,_,_,_,_,_,_,_,_,_,_,_,_,rfl,by have:=(GcdAt.stepE (.neg ha hb (by omega)) (show¬-a=0 by omega)).1;rwa [Int.emod_neg] at this⟩
  ·subst h
   go_wp2
   go_step3
   go_wp2
   simp only[Exit.jump]
   go_ret
   exact⟨congrArg _ (by simp;omega),rfl⟩
  ·have h2:¬a=0:=by omega
   go_wp2
   go_step3
   go_wp2
   go_step3
   exact⟨rfl,rfl,_,_,_,_,_,_,_,_,_,_,_,_,_,_,_,rfl,(GcdAt.stepE (.pos ha hb (by omega)) (by omega)).1⟩
 ·rintro a' w' ⟨rfl,m,n,u2,u3,u5,u6,u7,u8,u9,u10,u11,u12,u13,u14,u15,rfl,hs⟩
  by_cases h:m=0
  ·subst h
   go_wp2
   simp only[Exit.jump]
   go_ret
   exact⟨by have:=hs.done;simp[this],rfl⟩
  ·go_wp2
   go_step3
   exact⟨rfl,⟨rfl,_,_,_,_,_,_,_,_,_,_,_,_,_,_,_,rfl,(hs.step h).1⟩,by simpa [intAt] using (hs.step h).2⟩
theorem c_slope (A R n d:Int) (w:World):
  Cb 231 #[.agg #[.int .i64 A,.int .i64 R,.int .i64 n,.int .i64 d]] w (.agg #[.int .i64 n,.int .i64 d]):=by
 go_enter Tryz.func231,Tryz.ntmps231
 go_wp2
 refine bodyPost_ret (v:= .agg #[.int .i64 n,.int .i64 d]) (by simp[results,Tryz.results231,go_sem]) rfl ⟨rfl,?_⟩
 exact(have hUp:=(Below.refl w.heap.size w);belowAny)
theorem lowest_w (n d g x y:Int) (w:World) (hg:¬g=0) (e1:wrap64 (n.tdiv g)=x) (e2:wrap64 (d.tdiv g)=y)
  (c1:∀w,Calls Tryz.prog 290 #[.int .i64 n,.int .i64 d] w fun e w'=>e= .returned (.int .i64 g)/\w'=w):
  Cb 234 #[.agg #[.int .i64 n,.int .i64 d]] w (.agg #[.int .i64 x,.int .i64 y]):=by
 go_enter Tryz.func234,Tryz.ntmps234
 go_wp2_with fail
 refine(c1 _).mono ?_
 rintro e w1 ⟨rfl,rfl⟩
 clear c1
 go_upto_region 2 with(fail)
 refine wp_facts (fun W=>Below w.heap.size w W/\Blk W w.heap.size #[.int .i64 n,.int .i64 d] 186/\Blk W (w.heap.size+1) #[.int .i64 0,.int .i64 0] 186) ⟨?_,(by repeat (first|(refine Blk.new' ?_;simp;done)|refine Blk.alloc ?_ _)),(by repeat (first|(refine Blk.new' ?_;simp;done)|refine Blk.alloc ?_ _))⟩ ?_
 ·exact(have hUp:=(Below.refl w.heap.size w);belowAny)
 rintro W ⟨hW,b1,b2⟩
 refine wp_region_nd 9 18 [] (fun W'=>Rex [] W W'/\Blk W' w.heap.size #[.int .i64 n,.int .i64 d] 186/\Blk W' (w.heap.size+1) #[.int .i64 0,.int .i64 0] 186) mixed (by kernel_rfl) rfl ⟨(Rex.refl _ _).drew,b1,b2⟩ (fun w w' ⟨h0,h1,h2⟩ hr=>⟨h0.trans hr,h1.rex hr (by simp<;>omega),h2.rex hr (by simp<;>omega)⟩) (fun c a d v w h=>by cases d<;>exact h) ?_
 iterate 9
  apply nd_det (hg:=rfl) (hal:=rfl)
  ·intro a W' hC hE
   obtain⟨_,k1,k2⟩:=hC
   have k1:=k1.cell
   first
    |(simp at hE;simp[go_sem,Act.eval,iw,hE,k1,k2,hg,e1,e2];try rfl)
    |(clear hE;simp[go_sem,Act.eval,iw,k1,k2,hg,e1,e2];try rfl)
 rintro W2 ⟨hR,c1,c2⟩
 simp only[ndFinR,Det,forall_eq]
 intros
 repeat (rename GDet _ _ _ _=>hgd;clear hgd)
 simp only[nS]
 have k2:=c2.cell
 have k3:=c2.frozen
 go_wp2
 refine bodyPost_ret (v:= .agg #[.int .i64 x,.int .i64 y]) (by simp[results,Tryz.results234,go_sem,k2,k3]) rfl ⟨rfl,?_⟩
 exact(have hUp:=(hW.trans (hR.of_priv hW.size));belowAny)
def gcdI (n d:Int):Int:=(Nat.gcd n.natAbs d.natAbs:Int)
theorem gcdI_pos (n:Int) {d:Int} (hd:1<=d):1<=gcdI n d:=by
 unfold gcdI
 have:0<Nat.gcd n.natAbs d.natAbs:=Nat.gcd_pos_of_pos_right _ (by omega)
 omega
theorem tdiv_small (n g:Int) (hn:I64 n) (hg:1<=g):wrap64 (n.tdiv g)=n.tdiv g:=by
 have h:(n.tdiv g).natAbs<=n.natAbs:=by rw[Int.natAbs_tdiv];exact Nat.div_le_self _ _
 obtain⟨h1,h2⟩:=hn
 rcases Int.lt_or_le n 0 with h0|h0
 ·have:n.tdiv g<=0:=by
   have:=Int.tdiv_nonneg (a:= -n) (b:=g) (by omega) (by omega)
   rw[Int.neg_tdiv] at this;omega
  rw[wrap64_eq];omega
 ·have:0<=n.tdiv g:=Int.tdiv_nonneg h0 (by omega)
  rw[wrap64_eq];omega
theorem c_lowest (n d:Int) (w:World) (hn: -9223372036854775807<=n/\n<=9223372036854775807) (hd:1<=d) (hd':d<=9223372036854775807):
  Cb 234 #[.agg #[.int .i64 n,.int .i64 d]] w (.agg #[.int .i64 (n.tdiv (gcdI n d)),.int .i64 (d.tdiv (gcdI n d))]):=by
 have hg:=gcdI_pos n hd
 exact lowest_w n d (gcdI n d) _ _ w (by omega) (tdiv_small n _ ⟨by omega,hn.2⟩ hg) (tdiv_small d _ ⟨by omega,hd'⟩ hg) (fun w=>c_divisor n d w hn ⟨by omega,hd'⟩)
theorem lowest_same (n d:Int) (hd:1<=d):(n.tdiv (gcdI n d)=n/\d.tdiv (gcdI n d)=d)↔gcdI n d=1:=by
 constructor
 ·rintro⟨_,h⟩
  have hg:=gcdI_pos n hd
  rw[Int.tdiv_eq_ediv_of_nonneg (by omega)] at h
  rcases Int.lt_or_le 1 (gcdI n d) with k|k
  ·have:=Int.ediv_lt_self_of_pos_of_ne_one (x:=d) (y:=gcdI n d) (by omega) (by omega)
   omega
  ·omega
 ·intro h;rw[h];simp
def isLine (A R n d:Int):Bool:=isBack A&&isSlope n d&&decide (gcdI n d=1)&&decide (0<=R)&&decide (R<d)
theorem isSlope_bd {n d:Int} (h:isSlope n d=true):(-4611688217450643456<=n/\n<=4611688217450643456)/\1<=d/\d<=281474976710656:=by
 unfold isSlope at h;simp at h;omega
theorem ite_eq2 {x n y d:Int} {w:World}:(if x=n then (if y=d then (Result.ok (Next.value (Value.bool true)) w:Result Next) else Result.ok (Next.value (Value.bool false)) w) else Result.ok (Next.value (Value.bool false)) w)=Result.ok (Next.value (Value.bool (decide (x=n)&&decide (y=d)))) w:=by
 by_cases h1:x=n<;>by_cases h2:y=d<;>simp[h1,h2]
theorem isLine_eq (A R n d:Int):isLine A R n d=(isBack A&&isSlope n d&&(decide (n.tdiv (gcdI n d)=n)&&decide (d.tdiv (gcdI n d)=d))&&decide (0<=R)&&decide (R<d)):=by
 unfold isLine
 cases h:isSlope n d with
 |false=>simp
 |true=>
  have:=isSlope_bd h
  have e:(decide (n.tdiv (gcdI n d)=n)&&decide (d.tdiv (gcdI n d)=d))=decide (gcdI n d=1):=by
   rw[<-Bool.decide_and,decide_eq_decide];exact lowest_same n d this.2.1
  rw[e]
theorem c_is (A R n d:Int) (w:World):
  Cb 187 #[.agg #[.int .i64 A,.int .i64 R,.int .i64 n,.int .i64 d]] w (.bool (isLine A R n d)):=by
 rw[isLine_eq]
 go_enter Tryz.func187,Tryz.ntmps187
 go_wp2_with fail
 refine(c_slope A R n d _).mono ?_
 rintro e w1 ⟨rfl,hb1⟩
 obtain⟨hc1,hf1⟩:=bcell hb1
 have hz1:=hb1.size
 simp at hz1
 go_upto_region 2 with(fail)
 refine wp_facts (fun W=>Below w.heap.size w W/\Blk W w.heap.size #[.int .i64 A,.int .i64 R,.int .i64 n,.int .i64 d] 229/\Blk W w1.heap.size #[.int .i64 n,.int .i64 d] 186) ⟨?_,?_,(by repeat (first|(refine Blk.new' ?_;simp;done)|refine Blk.alloc ?_ _))⟩ ?_
 ·exact(have hUp:=((((Below.refl w.heap.size w).alloc (Nat.le_refl _) _)).trans (hb1.mono (by simp)));belowAny)
 ·exact Blk.alloc ((hb1.block w.heap.size (by simp)).trans (Blk.new' rfl)) _
 clear hc1 hf1 hb1
 rintro W ⟨hW,b1,b2⟩
 refine wp_region_nd 30 35 [] (fun W'=>Rex [] W W'/\Blk W' w.heap.size #[.int .i64 A,.int .i64 R,.int .i64 n,.int .i64 d] 229/\Blk W' w1.heap.size #[.int .i64 n,.int .i64 d] 186) mixed (by kernel_rfl) rfl ⟨(Rex.refl _ _).drew,b1,b2⟩ (fun w w' ⟨h0,h1,h2⟩ hr=>⟨h0.trans hr,h1.rex hr (by simp<;>omega),h2.rex hr (by simp<;>omega)⟩) (fun c a d v w h=>by cases d<;>exact h) ?_
 iterate 3
  apply nd_det (hg:=rfl) (hal:=rfl)
  ·intro a W' hC hE
   obtain⟨_,k1,k2⟩:=hC
   have k1:=k1.cell
   have k2:=k2.cell
   first
    |(simp at hE;simp[go_sem,Act.eval,iw,hE,k1,k2,ite_eq2];try rfl)
    |(clear hE;simp[go_sem,Act.eval,iw,k1,k2,ite_eq2];try rfl)
 refine nd_callv2 rfl rfl (fun W' hC=>c_back A W') (fun a W' hC hE=> ?_) ?_
 ·obtain⟨_,k1,k2⟩:=hC
  have k1:=k1.cell
  have k2:=k2.cell
  first
   |(simp at hE;simp[go_sem,Act.eval,iw,hE,k1,k2,ite_eq2];try rfl)
   |(clear hE;simp[go_sem,Act.eval,iw,k1,k2,ite_eq2];try rfl)
 iterate 1
  apply nd_det (hg:=rfl) (hal:=rfl)
  ·intro a W' hC hE
   obtain⟨_,k1,k2⟩:=hC
   have k1:=k1.cell
   have k2:=k2.cell
   first
    |(simp at hE;simp[go_sem,Act.eval,iw,hE,k1,k2,ite_eq2];try rfl)
    |(clear hE;simp[go_sem,Act.eval,iw,k1,k2,ite_eq2];try rfl)
 iterate 1
  apply nd_detg (p:=true) (hg:=rfl) (hd:=rfl) (hal:=rfl)
  ·intro v W' h
   simp[envOf,Det,GDet] at h
   simp
   exact h
  ·intro hp hx a W' hC hE
   obtain⟨_,k1,k2⟩:=hC
   have k1:=k1.cell
   have k2:=k2.cell
   simp[hx] at hE
   simp[go_sem,Act.eval,iw,hE,k1,k2,ite_eq2]
   try rfl
 apply nd_callvg2 (p:=true) (hg:=rfl) (hd:=rfl) (hal:=rfl)
 ·intro v W' h
  simp at h
  simp
  exact h
 ·intro hp hx W' hC
  exact c_slopeIs n d W'
 ·intro hp hx a W' hC hE
  obtain⟨_,k1,k2⟩:=hC
  have k1:=k1.cell
  have k2:=k2.cell
  first
   |(simp[hx] at hE;simp[go_sem,Act.eval,iw,hE,k1,k2,ite_eq2];try rfl)
   |(clear hE;simp[go_sem,Act.eval,iw,k1,k2,ite_eq2];try rfl)
 apply nd_pick_and (ho:=rfl) (hg:=rfl)
 ·intro v W' h
  simp at h
  exact h
 ·intro v W' h hx
  simp[hx] at h
  exact h
 iterate 1
  apply nd_det (hg:=rfl) (hal:=rfl)
  ·intro a W' hC hE
   obtain⟨_,k1,k2⟩:=hC
   have k1:=k1.cell
   have k2:=k2.cell
   first
    |(simp at hE;simp[go_sem,Act.eval,iw,hE,k1,k2,ite_eq2];try rfl)
    |(clear hE;simp[go_sem,Act.eval,iw,k1,k2,ite_eq2];try rfl)
 iterate 1
  apply nd_detg (p:=true) (hg:=rfl) (hd:=rfl) (hal:=rfl)
  ·intro v W' h
   simp[envOf,Det,GDet] at h
   simp
   exact h
  ·intro hp hx a W' hC hE
   obtain⟨_,k1,k2⟩:=hC
   have k1:=k1.cell
   have k2:=k2.cell
   simp[hx] at hE
   simp[go_sem,Act.eval,iw,hE,k1,k2,ite_eq2]
   try rfl
 apply nd_callvg2 (p:=true) (hg:=rfl) (hd:=rfl) (hal:=rfl)
 ·intro v W' h
  simp at h
  simp
  exact h
 ·intro hp hx W' hC
  exact(let q:=isSlope_bd (show isSlope n d=true by simp at hx;exact hx.2);c_lowest n d W' ⟨by have:=q.1;omega,by have:=q.1;omega⟩ q.2.1 (by have:=q.2.2;omega))
 ·intro hp hx a W' hC hE
  obtain⟨_,k1,k2⟩:=hC
  have k1:=k1.cell
  have k2:=k2.cell
  first
   |(simp[hx] at hE;simp[go_sem,Act.eval,iw,hE,k1,k2,ite_eq2];try rfl)
   |(clear hE;simp[go_sem,Act.eval,iw,k1,k2,ite_eq2];try rfl)
 iterate 19
  first
  |(
   apply nd_detg (p:=true) (hg:=rfl) (hd:=rfl) (hal:=rfl)
   ·intro v W' h
    simp[envOf,Det,GDet] at h
    simp
    exact h
   ·intro hp hx a W' hC hE
    obtain⟨_,k1,k2⟩:=hC
    have k1:=k1.cell
    have k2:=k2.cell
    simp[hx] at hE
    simp[go_sem,Act.eval,iw,hE,k1,k2,ite_eq2]
    try rfl)
  |(
   apply nd_pick_and (ho:=rfl) (hg:=rfl)
   ·intro v W' h
    simp at h
    exact h
   ·intro v W' h hx
    simp[hx] at h
    exact h)
  |(
   apply nd_det (hg:=rfl) (hal:=rfl)
   ·intro a W' hC hE
    obtain⟨_,k1,k2⟩:=hC
    have k1:=k1.cell
    have k2:=k2.cell
    first
     |(simp at hE;simp[go_sem,Act.eval,iw,hE,k1,k2,ite_eq2];try rfl)
     |(clear hE;simp[go_sem,Act.eval,iw,k1,k2,ite_eq2];try rfl))
 rintro W2 ⟨hR,c1,c2⟩
 simp only[ndFinR,Det,forall_eq]
 intros
 repeat (rename GDet _ _ _ _=>hgd;clear hgd)
 simp only[nS]
 refine wpList_nil ?_
 go_wp2
 go_ret
 exact⟨rfl,hW.trans (hR.of_priv hW.size)⟩
end Go.Proofs.YtpdhdjlhicceoaaGreatDoor
