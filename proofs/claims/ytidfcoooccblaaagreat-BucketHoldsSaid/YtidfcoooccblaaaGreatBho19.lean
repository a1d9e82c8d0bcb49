/- Parts of the proof that follows. No condition. -/
import Derived.Laws.BitsLemmas
import Derived.BigQuiet
import Derived.Test.YtidfcoooccblaaaGreatBho18
set_option maxRecDepth 100000
set_option maxHeartbeats 40000000
set_option linter.unusedSimpArgs false
set_option linter.unusedVariables false
namespace Go.Proofs.YtidfcoooccblaaaGreat
open Go.RowKit
theorem Kx {P:Program} {W:World} (base:Nat) (t ty e:TypeId) (i:TypeInfo) (z:Value) (size bytes:Nat) (ht:P.underlying t=some (.slice e)) (hi:P.info? e=some i) (hz:i.zero=some z)
  (hsize:i.size=size) (hby:i.bytes=bytes) (hzs:z.cells.size=size) (hsz:0<size)
  (v:Value) (n:Nat) (xs:List Value) (hown:W.ownsRow base e size v n xs)
  (a:Addr) (m c:Nat) (news:List Value) (hl:news.length=m*size) (hnews:∀j u,news[j]? =some u->W.cell? (a.add j)=some u) (h1:∀u∈news,u.oneCell'=true)
  (h63:n+m<=maxLen) (hbytes:(n+m)*bytes<=140737488355328) (hbase:base<=W.heap.size):
  ∃v' w',(Builtin.append_ #[t,t] ty #[v,.slice (some a) m c]).run P W= .ok v' w'/\w'.ownsRow base e size v' (n+m) (xs++news)/\W.grownBy w' v.ownBlock/\∀g,v'.ownBlock=some g->v.ownBlock=some g∨W.heap.size<=g:=by
 obtain⟨v',w',hr,ho,hgr,-⟩:=run_append_own (P:=P) W base t ty e i z size bytes ht hi hz hsize hby hzs hsz v n xs hown a m c news hl hnews h1 h63 hbytes hbase
 refine⟨v',w',hr,ho,hgr,fun g' hg'=> ?_⟩
 rcases hown.2 with⟨rfl,rfl⟩|⟨g,cap,cur,rfl,hg,hb,hn,hmx,hcs,htk⟩
 ·have hxs:xs= []:=List.eq_nil_of_length_eq_zero (by rw[hown.1];simp)
  subst hxs
  obtain⟨v2,w2,hr2,ho2,-,-⟩:=run_append_own (P:=P) W W.heap.size t ty e i z size bytes ht hi hz hsize hby hzs hsz _ 0 [] (World.ownsRow_nil W W.heap.size e size) a m c news hl hnews h1 h63 hbytes (Nat.le_refl _)
  rw[hr] at hr2
  injection hr2 with e1 e2
  subst e1
  exact .inr (ho2.lt _ hg').1
 ·by_cases hroom:n+m<=cap
  ·have hr2:=run_append_room (P:=P) W t ty e i ht hi g n cap cur hb a m c news (by rw[hsize];exact hl) hnews h1 hroom (by rw[hsize,hl,hcs,<-Nat.add_mul];exact Nat.mul_le_mul_right _ hroom)
   rw[hr] at hr2
   injection hr2 with e1 e2
   subst e1
   exact .inl (by simpa [Value.ownBlock] using hg')
  ·have hr2:=run_append_grow (P:=P) W t ty e i z ht hi hz ⟨g,0,none⟩ n cap xs (by rw[hsize];exact hown.1) (fun j u hu=>hown.cells rfl j u hu) a m c news (by rw[hsize];exact hl) hnews (by omega) (by simp only[maxLen] at h63;omega) (by rw[hby];exact growslice_fits (by omega) hbytes)
   rw[hr] at hr2
   injection hr2 with e1 e2
   subst e1
   refine .inr ?_
   simp only[Value.ownBlock,Option.some.injEq] at hg'
   omega
theorem Ed {P:Program} {ops:Array Oper} {rest:List Oper} {o:Oper} {a:Act} {Q:Exit->Act->World->Prop} {w:World} (hgd:o.guard=none) (s x:Operand) (t:TypeId)
  (ho:o.op= .call {callee:= .builtin .append,args:= #[s,x],argTypes:= #[t,t]}) (v sv v':Value) (w':World) (hs:a.eval s=v) (hx:a.eval x=sv)
  (hr:(Builtin.append_ #[t,t] o.type #[v,sv]).run P w= .ok v' w') (h:wpList P ops Q rest (a.put o.dst v') w'):wpList P ops Q (o::rest) a w:=
 wpList_plain hgd fun K hK=>by
  unfold Oper.wp execOp
  simp only[ho,resolve,invoke,builtin,Sem.run_bind,Sem.run_pure,Result.andThen_ok,List.map_toArray,List.map_cons,List.map_nil,hs,hx,hr]
  exact hK _ _ h
theorem M3 {P:Program} {W:World} (base:Nat) (t ty e:TypeId) (i:TypeInfo) (size:Nat) (ht:P.underlying t=some (.slice e)) (hi:P.info? e=some i)
  (v:Value) (n:Nat) (xs:List Value) (hown:W.ownsRow base e size v n xs) (p:Option Addr) (c:Nat):
  (Builtin.append_ #[t,t] ty #[v,.slice p 0 c]).run P W= .ok v W:=by
 rcases hown.2 with⟨rfl,rfl⟩|⟨g,cap,cur,rfl,_,_,hnc,_⟩
 ·cases p<;>simp[Builtin.append_,run_underlying ht,sizeOf,typeInfo,hi,Builtin.lenOf,Builtin.firstCells,loadCells,loadCellsFrom]
 ·cases p<;>simp[Builtin.append_,run_underlying ht,sizeOf,typeInfo,hi,Builtin.lenOf,Builtin.firstCells,hnc,storeCells,loadCells,loadCellsFrom]
theorem L9 (n:Int):bits .and .i64 n 1048575=n%1048576:=by
 have hm:(BitVec.ofInt 64 1048575).toNat=2^20-1:=by decide
 have key:(BitVec.ofInt 64 n&&&BitVec.ofInt 64 1048575).toNat=(n%((2^64:Nat):Int)).toNat%2^20:=by
  rw[BitVec.toNat_and,BitVec.toNat_ofInt,hm,Nat.and_two_pow_sub_one_eq_mod]
 change IntKind.i64.wrap (((BitVec.ofInt 64 n&&&BitVec.ofInt 64 1048575).toNat:Nat):Int)=_
 rw[key,IntKind.wrap_i64]
 omega
attribute [local simp] Oper.looksAt Op.operands Call.operands Al Det Ap
theorem Yk (s:A4) (p q:Option Addr) (cap vc:Nat) (w:World) (h:Cs w s p q) (hs:Cw s=true):
  Calls Tryz.prog 47 #[.agg (C7 s p q cap vc)] w fun e w'=>∃g cp,e= .returned (.tuple #[.slice (some ⟨g,0,none⟩) (B2 s).length cp,.int .i64 0])/\Below w.heap.size w w'/\A5 w' (some ⟨g,0,none⟩) (B2 s)/\w.heap.size<=g:=by
 refine(c_Points s p q cap vc w h hs).mono ?_
 rintro e w' ⟨v,rfl,hv,hB⟩
 have hn:=Ew hs
 have hc:=Da (Bj hs)
 obtain⟨g,cp,cur,rfl,hg,hcp,_,hb,_,htk⟩:=pts_is hv (by omega)
 exact⟨g,cp,rfl,hB,Kn hb htk,hg⟩
theorem A5.grown {W w1:World} {o:Obj} {g x:Nat} {l:List (Int×Int)} {row:Option Nat} (h:A5 W (some ⟨g,x,none⟩) l) (hgr:(W.alloc o).grownBy w1 row) (hne:row≠some g):A5 w1 (some ⟨g,x,none⟩) l:=⟨fun i r hr=>by
 obtain⟨b,y,e,h1,h2⟩:=(h.alloc o).at' i r hr
 cases e
 exact⟨g,x,rfl,hgr.cell h1 (fun e=>hne e.symm),hgr.cell h2 (fun e=>hne e.symm)⟩⟩
theorem Tryz.infoPtB :(Tryz.prog.info? 91).map (fun i=>(i.zero,i.size,i.bytes))=some (some (.agg #[.int .i64 0,.int .i64 0]),2,16):=by kernel_rfl
theorem Tj {W:World} {base n:Nat} {xs:List Value} {v:Value} (hown:W.ownsRow base 91 2 v n xs) (hn:n<=100000) (pP:Option Addr) (l:List (Int×Int)) (capP:Nat) (hP:A5 W pP l) (hl:l.length<=100) (hb:base<=W.heap.size):
  ∃v' w',(Builtin.append_ #[23,23] 23 #[v,.slice pP l.length capP]).run Tryz.prog W= .ok v' w'/\w'.ownsRow base 91 2 v' (n+l.length) (xs++Ar l)/\W.grownBy w' v.ownBlock:=by
 obtain⟨i0,hi0,hz0,hz1,hz2⟩:=info_parts Tryz.infoPtB
 cases l with
 |nil=>exact⟨v,W,M3 base _ _ 91 i0 2 (by kernel_rfl) hi0 v n xs hown pP capP,by simpa [Ar] using hown,⟨rfl,rfl,rfl,Nat.le_refl _,fun _ _ _=>rfl⟩⟩
 |cons x l=>
  obtain⟨b,o,rfl,-⟩:=hP.at' 0 x rfl
  obtain⟨v',w',h1,h2,h3,-⟩:=Kx (P:=Tryz.prog) (W:=W) base 23 23 91 i0 (.agg #[.int .i64 0,.int .i64 0]) 2 16 (by kernel_rfl) hi0 hz0 hz1 hz2 rfl (by decide) v n xs hown ⟨b,o,none⟩ (x::l).length capP (Ar (x::l)) (by rw[Hi]) (fun j u hu=>Pc hP j u hu) (fun v hv=>Hh _ v hv) (by simp only[maxLen];omega) (by omega) hb
  exact⟨v',w',h1,h2,h3⟩
theorem Zk {W:World} {base n:Nat} {v:Value} {l:List (Int×Int)} (hown:W.ownsRow base 91 2 v n (Ar l)) (hn:l.length=n):∃p c,v= .slice p l.length c/\A5 W p l:=by
 subst hn
 by_cases h:l= []
 ·subst h
  obtain⟨p,c,rfl,-⟩:=Ca.form ⟨hown⟩
  exact⟨p,c,rfl,⟨fun i r hr=>by simp at hr⟩⟩
 ·obtain⟨g,c,rfl,hP⟩:=Ca.ptsS ⟨hown⟩ (List.length_pos_iff.2 h)
  exact⟨_,c,rfl,hP⟩
def bhRel (w:World) (s:A3) (pb:Option Addr) (cb:Nat) (by_:List Int) (pS:Option Addr) (capS gr gs:Nat) (a':Act) (W:World):Prop:=
 Below w.heap.size w W/\∃(i:Nat) (v:Value),Ca W w.heap.size 91 2 v (rdG by_ 0 ((s.segs.take i).flatMap Dy)).length (Ar (rdG by_ 0 ((s.segs.take i).flatMap Dy)))/\(∃u:Nat->Value,a'= {tmps:= #[u 0,.slice pb by_.length cb,u 2,u 3,u 4,.pointer (some ⟨gr,0,none⟩),u 6,.pointer (some ⟨gs,0,none⟩),v,u 9,u 10,u 11,u 12,u 13,u 14,u 15,u 16,u 17,u 18,u 19,u 20,u 21,u 22,u 23,u 24,u 25,u 26,u 27,u 28,u 29,u 30,u 31,u 32,u 33,u 34,u 35,u 36,u 37,u 38,.slice pS s.segs.length capS,.int .i64 (s.segs.length:Int),.int .i64 (i:Int),u 42,u 43,u 44,u 45,u 46,u 47,u 48,u 49,u 50,u 51,u 52,u 53,u 54,u 55,u 56,u 57,u 58,u 59,u 60,u 61,u 62,u 63,u 64,u 65,u 66,u 67,u 68,u 69,u 70,u 71,u 72,u 73,u 74,u 75,u 76,u 77,u 78,u 79,u 80,u 81,u 82,u 83,u 84,u 85,u 86,u 87,u 88,u 89,u 90,u 91,u 92,u 93,u 94,u 95,u 96,u 97,u 98,u 99,u 100,u 101,u 102,u 103,u 104,u 105,u 106,u 107,u 108,u 109,u 110,u 111,u 112,u 113,u 114,u 115,u 116,u 117,u 118,u 119,u 120,u 121,u 122,u 123,u 124,u 125,u 126,u 127,u 128,u 129,u 130,u 131,u 132,u 133,u 134,u 135,u 136,u 137,u 138,u 139,u 140,u 141,u 142,u 143,u 144,u 145,u 146,u 147,u 148,u 149,u 150,u 151,u 152,u 153,u 154,u 155,u 156,u 157,u 158,u 159,u 160,u 161,u 162,u 163,u 164,u 165,u 166,u 167,u 168,u 169,u 170,u 171,u 172,u 173,u 174,u 175,u 176,u 177,u 178,u 179,u 180,u 181,u 182,u 183,u 184,u 185,u 186,u 187,u 188,u 189,u 190,u 191,u 192,u 193,u 194,u 195,u 196,u 197,u 198,u 199,u 200,u 201,u 202,u 203,u 204,u 205,u 206,u 207,u 208,u 209,u 210,u 211,u 212,u 213,u 214,u 215,u 216,u 217,u 218,u 219,u 220,u 221,u 222,u 223,u 224,u 225,u 226,u 227,u 228,u 229,u 230,u 231,u 232,u 233,u 234,u 235,u 236,u 237,u 238,u 239,u 240,u 241,u 242,u 243,u 244,u 245,u 246,u 247,u 248,u 249,u 250,u 251,u 252,u 253,u 254,u 255,u 256,u 257,u 258,u 259,u 260,u 261,u 262,u 263,u 264,u 265,u 266,u 267,u 268,u 269,u 270,u 271,u 272,u 273,u 274,u 275,u 276,u 277,u 278,u 279,u 280,u 281,u 282,u 283,u 284,u 285,u 286,u 287,u 288,u 289,u 290,u 291,u 292,u 293,u 294,u 295,u 296,u 297,u 298,u 299,u 300,u 301,u 302,u 303,u 304,u 305,u 306,u 307,u 308,u 309,u 310,u 311,u 312,u 313,u 314,u 315,u 316,u 317,u 318,u 319,u 320,u 321,u 322,u 323,u 324,u 325,u 326,u 327,u 328,u 329,u 330,u 331,u 332,u 333,u 334,u 335,u 336,u 337,u 338,u 339,u 340,u 341,u 342,u 343,u 344,u 345],defers:= []})/\i<=s.segs.length
def Rj (w:World) (s:A3) (pb:Option Addr) (cb:Nat) (by_:List Int) (pS:Option Addr) (capS gr gs gx gp cp:Nat) (i:Nat) (x:A4) (p' q':Option Addr) (cps vc:Nat) (a':Act) (W:World):Prop:=
 Below w.heap.size w W/\Blk W gx #[.int .i64 x.K,.slice p' x.runs.length cps,.int .i64 x.A,.int .i64 x.R,.int .i64 x.n,.int .i64 x.d,.slice q' x.raw.length vc,.int .i64 x.E] 98/\A5 W (some ⟨gp,0,none⟩) (B2 x)/\∃(j:Nat) (v:Value),Ca W w.heap.size 91 2 v (rdG by_ 0 (Jm s i x j)).length (Ar (rdG by_ 0 (Jm s i x j)))/\v.ownBlock≠some gp/\(∃u:Nat->Value,a'= {tmps:= #[u 0,.slice pb by_.length cb,u 2,u 3,u 4,.pointer (some ⟨gr,0,none⟩),u 6,.pointer (some ⟨gs,0,none⟩),v,u 9,.pointer (some ⟨gx,0,none⟩),u 11,u 12,u 13,u 14,u 15,u 16,u 17,u 18,u 19,u 20,u 21,u 22,u 23,u 24,u 25,u 26,u 27,u 28,u 29,u 30,u 31,u 32,u 33,u 34,u 35,u 36,u 37,u 38,.slice pS s.segs.length capS,.int .i64 (s.segs.length:Int),.int .i64 (i:Int),u 42,u 43,u 44,u 45,u 46,u 47,u 48,u 49,u 50,u 51,.slice (some ⟨gp,0,none⟩) (B2 x).length cp,.int .i64 ((B2 x).length:Int),.int .i64 (j:Int),u 55,u 56,u 57,u 58,u 59,u 60,u 61,u 62,u 63,u 64,u 65,u 66,u 67,u 68,u 69,u 70,u 71,u 72,u 73,u 74,u 75,u 76,u 77,u 78,u 79,u 80,u 81,u 82,u 83,u 84,u 85,u 86,u 87,u 88,u 89,u 90,u 91,u 92,u 93,u 94,u 95,u 96,u 97,u 98,u 99,u 100,u 101,u 102,u 103,u 104,u 105,u 106,u 107,u 108,u 109,u 110,u 111,u 112,u 113,u 114,u 115,u 116,u 117,u 118,u 119,u 120,u 121,u 122,u 123,u 124,u 125,u 126,u 127,u 128,u 129,u 130,u 131,u 132,u 133,u 134,u 135,u 136,u 137,u 138,u 139,u 140,u 141,u 142,u 143,u 144,u 145,u 146,u 147,u 148,u 149,u 150,u 151,u 152,u 153,u 154,u 155,u 156,u 157,u 158,u 159,u 160,u 161,u 162,u 163,u 164,u 165,u 166,u 167,u 168,u 169,u 170,u 171,u 172,u 173,u 174,u 175,u 176,u 177,u 178,u 179,u 180,u 181,u 182,u 183,u 184,u 185,u 186,u 187,u 188,u 189,u 190,u 191,u 192,u 193,u 194,u 195,u 196,u 197,u 198,u 199,u 200,u 201,u 202,u 203,u 204,u 205,u 206,u 207,u 208,u 209,u 210,u 211,u 212,u 213,u 214,u 215,u 216,u 217,u 218,u 219,u 220,u 221,u 222,u 223,u 224,u 225,u 226,u 227,u 228,u 229,u 230,u 231,u 232,u 233,u 234,u 235,u 236,u 237,u 238,u 239,u 240,u 241,u 242,u 243,u 244,u 245,u 246,u 247,u 248,u 249,u 250,u 251,u 252,u 253,u 254,u 255,u 256,u 257,u 258,u 259,u 260,u 261,u 262,u 263,u 264,u 265,u 266,u 267,u 268,u 269,u 270,u 271,u 272,u 273,u 274,u 275,u 276,u 277,u 278,u 279,u 280,u 281,u 282,u 283,u 284,u 285,u 286,u 287,u 288,u 289,u 290,u 291,u 292,u 293,u 294,u 295,u 296,u 297,u 298,u 299,u 300,u 301,u 302,u 303,u 304,u 305,u 306,u 307,u 308,u 309,u 310,u 311,u 312,u 313,u 314,u 315,u 316,u 317,u 318,u 319,u 320,u 321,u 322,u 323,u 324,u 325,u 326,u 327,u 328,u 329,u 330,u 331,u 332,u 333,u 334,u 335,u 336,u 337,u 338,u 339,u 340,u 341,u 342,u 343,u 344,u 345],defers:= []})/\j<=(B2 x).length
def Hl (w:World) (N:Nat) (pv:Option Addr) (n cv:Nat) (pl:Option Addr) (jl gr gs:Nat) (a':Act) (W:World):Prop:=
 Below w.heap.size w W/\∃(i:Nat),(∃u:Nat->Value,a'= {tmps:= #[u 0,u 1,u 2,u 3,u 4,.pointer (some ⟨gr,0,none⟩),u 6,.pointer (some ⟨gs,0,none⟩),.slice pv n cv,u 9,u 10,u 11,u 12,u 13,u 14,u 15,u 16,u 17,u 18,u 19,u 20,u 21,u 22,u 23,u 24,u 25,u 26,u 27,u 28,u 29,u 30,u 31,u 32,u 33,u 34,u 35,u 36,u 37,u 38,u 39,u 40,u 41,u 42,u 43,u 44,u 45,u 46,u 47,u 48,u 49,u 50,u 51,u 52,u 53,u 54,u 55,u 56,u 57,u 58,u 59,u 60,u 61,u 62,u 63,u 64,u 65,u 66,u 67,u 68,u 69,u 70,u 71,u 72,u 73,u 74,u 75,u 76,u 77,u 78,u 79,u 80,u 81,u 82,u 83,u 84,u 85,u 86,u 87,u 88,u 89,u 90,u 91,u 92,u 93,u 94,u 95,u 96,u 97,u 98,u 99,u 100,.slice pl N jl,.int .i64 (N:Int),.int .i64 (i:Int),u 104,u 105,u 106,u 107,u 108,u 109,u 110,u 111,u 112,u 113,u 114,u 115,u 116,u 117,u 118,u 119,u 120,u 121,u 122,u 123,u 124,u 125,u 126,u 127,u 128,u 129,u 130,u 131,u 132,u 133,u 134,u 135,u 136,u 137,u 138,u 139,u 140,u 141,u 142,u 143,u 144,u 145,u 146,u 147,u 148,u 149,u 150,u 151,u 152,u 153,u 154,u 155,u 156,u 157,u 158,u 159,u 160,u 161,u 162,u 163,u 164,u 165,u 166,u 167,u 168,u 169,u 170,u 171,u 172,u 173,u 174,u 175,u 176,u 177,u 178,u 179,u 180,u 181,u 182,u 183,u 184,u 185,u 186,u 187,u 188,u 189,u 190,u 191,u 192,u 193,u 194,u 195,u 196,u 197,u 198,u 199,u 200,u 201,u 202,u 203,u 204,u 205,u 206,u 207,u 208,u 209,u 210,u 211,u 212,u 213,u 214,u 215,u 216,u 217,u 218,u 219,u 220,u 221,u 222,u 223,u 224,u 225,u 226,u 227,u 228,u 229,u 230,u 231,u 232,u 233,u 234,u 235,u 236,u 237,u 238,u 239,u 240,u 241,u 242,u 243,u 244,u 245,u 246,u 247,u 248,u 249,u 250,u 251,u 252,u 253,u 254,u 255,u 256,u 257,u 258,u 259,u 260,u 261,u 262,u 263,u 264,u 265,u 266,u 267,u 268,u 269,u 270,u 271,u 272,u 273,u 274,u 275,u 276,u 277,u 278,u 279,u 280,u 281,u 282,u 283,u 284,u 285,u 286,u 287,u 288,u 289,u 290,u 291,u 292,u 293,u 294,u 295,u 296,u 297,u 298,u 299,u 300,u 301,u 302,u 303,u 304,u 305,u 306,u 307,u 308,u 309,u 310,u 311,u 312,u 313,u 314,u 315,u 316,u 317,u 318,u 319,u 320,u 321,u 322,u 323,u 324,u 325,u 326,u 327,u 328,u 329,u 330,u 331,u 332,u 333,u 334,u 335,u 336,u 337,u 338,u 339,u 340,u 341,u 342,u 343,u 344,u 345],defers:= []})/\i<=N
def Kv (w:World) (N:Nat) (pv:Option Addr) (RD:List (Int×Int)) (cv:Nat) (pl:Option Addr) (jl gr gs g18 g23 i:Nat) (fl fst wd:Int) (rer rn rx ry rm0 rm1 rm2 rm3 rm4:Int) (a':Act) (W:World):Prop:=
 Below w.heap.size w W/\Blk W g18 #[.int .i64 rer,.int .i64 rn,.int .i64 rx,.int .i64 ry,.int .i64 rm0,.int .i64 rm1,.int .i64 rm2,.int .i64 rm3,.int .i64 rm4] 67/\∃(j:Nat) (m:Int) (Q:List Int),Blk W g23 #[.int .i64 (Dd Q),.int .i64 (Dh Q)] 101/\qOf fl fst wd (RD.take j)=Q/\(Q.length:Int)=m/\(∃u:Nat->Value,a'= {tmps:= #[u 0,u 1,u 2,u 3,u 4,.pointer (some ⟨gr,0,none⟩),u 6,.pointer (some ⟨gs,0,none⟩),.slice pv RD.length cv,u 9,u 10,u 11,u 12,u 13,u 14,u 15,u 16,.int .i64 (i:Int),.pointer (some ⟨g18,0,none⟩),.int .i64 fst,.int .i64 m,.int .i64 (Aw Q),.int .i64 (Ay Q),.pointer (some ⟨g23,0,none⟩),u 24,u 25,u 26,u 27,u 28,u 29,u 30,u 31,u 32,u 33,u 34,u 35,u 36,u 37,u 38,u 39,u 40,u 41,u 42,u 43,u 44,u 45,u 46,u 47,u 48,u 49,u 50,u 51,u 52,u 53,u 54,u 55,u 56,u 57,u 58,u 59,u 60,u 61,u 62,u 63,u 64,u 65,u 66,u 67,u 68,u 69,u 70,u 71,u 72,u 73,u 74,u 75,u 76,u 77,u 78,u 79,u 80,u 81,u 82,u 83,u 84,u 85,u 86,u 87,u 88,u 89,u 90,u 91,u 92,u 93,u 94,u 95,u 96,u 97,u 98,u 99,u 100,.slice pl N jl,.int .i64 (N:Int),.int .i64 (i:Int),u 104,u 105,u 106,u 107,u 108,u 109,u 110,u 111,u 112,u 113,u 114,.slice pv RD.length cv,.int .i64 (RD.length:Int),.int .i64 (j:Int),u 118,u 119,u 120,u 121,u 122,u 123,u 124,u 125,u 126,u 127,u 128,u 129,u 130,u 131,u 132,u 133,u 134,u 135,u 136,u 137,u 138,u 139,u 140,u 141,u 142,u 143,u 144,u 145,u 146,u 147,u 148,u 149,u 150,u 151,u 152,u 153,u 154,u 155,u 156,u 157,u 158,u 159,u 160,u 161,u 162,u 163,u 164,u 165,u 166,u 167,u 168,u 169,u 170,u 171,u 172,u 173,u 174,u 175,u 176,u 177,u 178,u 179,u 180,u 181,u 182,u 183,u 184,u 185,u 186,u 187,u 188,u 189,u 190,u 191,u 192,u 193,u 194,u 195,u 196,u 197,u 198,u 199,u 200,u 201,u 202,u 203,u 204,u 205,u 206,u 207,u 208,u 209,u 210,u 211,u 212,u 213,u 214,u 215,u 216,u 217,u 218,u 219,u 220,u 221,u 222,u 223,u 224,u 225,u 226,u 227,u 228,u 229,u 230,u 231,u 232,u 233,u 234,u 235,u 236,u 237,u 238,u 239,u 240,u 241,u 242,u 243,u 244,u 245,u 246,u 247,u 248,u 249,u 250,u 251,u 252,u 253,u 254,u 255,u 256,u 257,u 258,u 259,u 260,u 261,u 262,u 263,u 264,u 265,u 266,u 267,u 268,u 269,u 270,u 271,u 272,u 273,u 274,u 275,u 276,u 277,u 278,u 279,u 280,u 281,u 282,u 283,u 284,u 285,u 286,u 287,u 288,u 289,u 290,u 291,u 292,u 293,u 294,u 295,u 296,u 297,u 298,u 299,u 300,u 301,u 302,u 303,u 304,u 305,u 306,u 307,u 308,u 309,u 310,u 311,u 312,u 313,u 314,u 315,u 316,u 317,u 318,u 319,u 320,u 321,u 322,u 323,u 324,u 325,u 326,u 327,u 328,u 329,u 330,u 331,u 332,u 333,u 334,u 335,u 336,u 337,u 338,u 339,u 340,u 341,u 342,u 343,u 344,u 345],defers:= []})/\j<=RD.length
theorem Lr.below {B:Nat} {w w':World} {F:World->Prop} (h:Lr B w F) (hb:Below w.heap.size w w'):Lr B w' F:=fun L W hL hr=>h L W hL (((Rex.of_below hb).more (fun x hx=>absurd hx List.not_mem_nil)).trans hr)
theorem Below.calls2 {w w':World} {o:Obj} (h:Below (w.alloc o).heap.size (w.alloc o) w'):Below w.heap.size w w':=Ot ((Below.refl _ _).alloc (Nat.le_refl _) o) h (by simp)
theorem Te (nm:ByteArray) (ep fl la sc:Int) (ps po:Option Addr) (ns cs no co:Nat) (s:A3) (pb:Option Addr) (cb:Nat) (by_:List Int) (qa qb qc qd:Int) (k N:Nat) (fr wd:Int) (ls:List (List (Int×Int))) (nn:Int) (w:World) (hk:1<=k/\k<=5) (hf:0<=fr/\fr<=281474976710656) (hw:1<=wd/\wd<=281474976710656) (hN:1<=N/\N<=64) (hln:nn=0->ls.length=N) (hv:nn=0->∀x,x∈s.segs->Cw x=true) (hby:Au w pb by_) (hby9:∀z,z∈by_->I64 z) (hbk9:nn=0->(En s).length<=100000) (hRB:nn=0->∀q,q∈rdG by_ 0 (En s)-> -4611686018427387904<=q.2/\q.2<=4611686018427387904) (hfS:s.segs.length<=100) (hfO:s.opn.length<=100)
  (hcase:Hid (nn=340∨(nn=0/\Hid (0<=s.eps/\s.eps<=1099511627776/\∀(i:Nat) (l:List (Int×Int)),ls[i]? =some l->Gm (qOf s.floor (fr+(i:Int)*wd) wd (rdG by_ 0 (En s))) l/\(∀x,x∈l->x.2<=s.eps)/\l.length<=100000))))
  (c1:∀W,Below w.heap.size w W->Cb 28 #[] W (.bool true))
  (c2:∀W,Below w.heap.size w W->Calls Tryz.prog 29 #[.agg #[.string nm,.int .i64 ep,.int .i64 fl,.int .i64 la,.int .i64 sc,.slice ps ns cs,.slice po no co]] W fun e w'=>∃pS capS pP capP,e= .returned (.agg #[.string s.name,.int .i64 s.eps,.int .i64 s.floor,.int .i64 s.last,.int .i64 s.scale,.slice pS s.segs.length capS,.slice pP s.opn.length capP])/\Below W.heap.size W w'/\Lr W.heap.size w' fun W=>A9 W s pS pP)
  (cM:∀W,Cb 42 #[.agg #[.int .i64 qa,.int .i64 qb,.int .i64 qc,.int .i64 qd]] W (.agg #[.int .i64 (k:Int),.int .i64 fr,.int .i64 wd,.int .i64 (N:Int)]))
  (cC:∀W pS capS pP capP,A9 W s pS pP->Cb 14 #[.agg #[.string s.name,.int .i64 s.eps,.int .i64 s.floor,.int .i64 s.last,.int .i64 s.scale,.slice pS s.segs.length capS,.slice pP s.opn.length capP]] W (.int .i64 nn))
  (cL:nn=0->∀W pS capS pP capP,A9 W s pS pP->Calls Tryz.prog 38 #[.agg #[.string s.name,.int .i64 s.eps,.int .i64 s.floor,.int .i64 s.last,.int .i64 s.scale,.slice pS s.segs.length capS,.slice pP s.opn.length capP],.int .i64 (k:Int),.int .i64 fr,.int .i64 wd,.int .i64 (N:Int)] W fun e w'=>∃p j,e= .returned (.tuple #[.slice p N j,.int .i64 0])/\Cm w' p (ls.map (D5 k))/\Below W.heap.size W w'):
  Cb 10 #[.agg #[.string nm,.int .i64 ep,.int .i64 fl,.int .i64 la,.int .i64 sc,.slice ps ns cs,.slice po no co],.slice pb by_.length cb,.agg #[.int .i64 qa,.int .i64 qb,.int .i64 qc,.int .i64 qd]] w (.bool true):=by
 obtain⟨i0,hi0,hz0,hz1,hz2⟩:=info_parts Tryz.infoPtB
 have H_c1:=Hd c1
 clear c1
 have H_c2:=Hd c2
 clear c2
 have H_cM:=Hd cM
 clear cM
 have H_cC:=Hd cC
 clear cC
 have H_cL:=Hd cL
 clear cL
 go_enter Tryz.func10,Tryz.ntmps10
 go_wp2_with fail
 refine(H_c1.out _ Aa).mono ?_
 rintro e w1 ⟨rfl,hb1⟩
 have z2:=hb1.size
 try simp at z2
 refine Ad w w1 (Bc w.heap.size #[.string nm,.int .i64 ep,.int .i64 fl,.int .i64 la,.int .i64 sc,.slice ps ns cs,.slice po no co] 25<|Bc (w.heap.size+1) #[.int .i64 qa,.int .i64 qb,.int .i64 qc,.int .i64 qd] 79<|Bz) ?_
 rintro hW z3 ⟨⟨b1,yb1,k1,f1⟩,⟨b2,yb2,k2,f2⟩,-⟩
 clear hb1
 go_wp2_with fail
 refine(H_c2.out _ Aa).mono ?_
 rintro e w4 ⟨pS,capS,pP,capP,rfl,hb4,hs⟩
 have z5:=hb4.size
 try simp at z5
 clear k1 f1 k2 f2
 refine Ad w w4 (Bc w.heap.size #[.string nm,.int .i64 ep,.int .i64 fl,.int .i64 la,.int .i64 sc,.slice ps ns cs,.slice po no co] 25<|Bc (w.heap.size+1) #[.int .i64 qa,.int .i64 qb,.int .i64 qc,.int .i64 qd] 79<|Bz) ?_
 clear b1 b2 hW
 rintro hW z6 ⟨⟨b1,yb1,k1,f1⟩,⟨b2,yb2,k2,f2⟩,-⟩
 have b3:=hs
 clear hs
 go_wp2_with fail
 refine(H_cM.out _).mono ?_
 rintro e w7 ⟨rfl,hb7⟩
 have z8:=hb7.size
 try simp at z8
 clear k1 f1 k2 f2
 refine Ad w w7 (Bc w.heap.size #[.string nm,.int .i64 ep,.int .i64 fl,.int .i64 la,.int .i64 sc,.slice ps ns cs,.slice po no co] 25<|Bc (w.heap.size+1) #[.int .i64 qa,.int .i64 qb,.int .i64 qc,.int .i64 qd] 79<|Rc (fun W'=>Lr w1.heap.size W' (fun W=>A9 W s pS pP))<|Bc w4.heap.size #[.string s.name,.int .i64 s.eps,.int .i64 s.floor,.int .i64 s.last,.int .i64 s.scale,.slice pS s.segs.length capS,.slice pP s.opn.length capP] 25<|Bz) ?_ (hR:=(Bc.mk (by exact Ab)<|Bc.mk (by exact Ab)<|Rc.mk (by first|exact b3|exact b3.below (by assumption)|exact Lr.below b3 (Below.calls2 (by assumption))|exact b3.below Aa)<|Bc.mk (by exact Ab)<|trivial))
 clear b1 b2 b3 hW
 rintro hW z9 ⟨⟨b1,yb1,k1,f1⟩,⟨b2,yb2,k2,f2⟩,b3,⟨b4,yb4,k4,f4⟩,-⟩
 clear hb7
 go_upto_region 5 with(fail)
 clear k1 f1 k2 f2 k4 f4
 refine Ac w (Rc (fun W'=>A9 W' s pS pP)<|Bc (w.heap.size+1) #[.int .i64 (k:Int),.int .i64 fr,.int .i64 wd,.int .i64 (N:Int)] 79<|Bc w4.heap.size #[.string s.name,.int .i64 s.eps,.int .i64 s.floor,.int .i64 s.last,.int .i64 s.scale,.slice pS s.segs.length capS,.slice pP s.opn.length capP] 25<|Bz) ?_ (hI:=by exact Aa) (hR:=(Rc.mk (by exact b3 [w.heap.size+1] _ (by simp;omega) (by exact Eu))<|Bc.mk (by exact Ab)<|Bc.mk (by exact Ab)<|trivial))
 clear b1 b2 b3 b4 hW
 rintro W10 hW z11 ⟨b1,⟨b2,yb2,k2,f2⟩,⟨b3,yb3,k3,f3⟩,-⟩
 go_wp2_with fail
 refine(H_cC.out _ pS capS pP capP b1).mono ?_
 rintro e w12 ⟨rfl,hb12⟩
 have z13:=hb12.size
 try simp at z13
 clear k2 f2 k3 f3
 refine Ad w w12 (Rc (fun W'=>A9 W' s pS pP)<|Bc (w.heap.size+1) #[.int .i64 (k:Int),.int .i64 fr,.int .i64 wd,.int .i64 (N:Int)] 79<|Bc w4.heap.size #[.string s.name,.int .i64 s.eps,.int .i64 s.floor,.int .i64 s.last,.int .i64 s.scale,.slice pS s.segs.length capS,.slice pP s.opn.length capP] 25<|Bz) ?_ (hR:=(Rc.mk (by first|exact b1|exact(A9.alloc b1 _).below (by assumption)|exact b1.below (by assumption)|exact b1.below Aa)<|Bc.mk (by exact Ab)<|Bc.mk (by exact Ab)<|trivial))
 clear b1 b2 b3 hW
 rintro hW z14 ⟨b1,⟨b2,yb2,k2,f2⟩,⟨b3,yb3,k3,f3⟩,-⟩
 clear hb12
 rcases hcase.out with rfl|⟨rfl,hfin⟩
 ·
  go_wp2
  refine bodyPost_ret (by simp[results,Tryz.results10,go_sem,k2,f2,k3,f3,yb2,yb3]) rfl ⟨rfl,by exact Aa⟩
 ·
  go_upto_region 8 with(fail)
  clear k2 f2 k3 f3
  refine Ac w (Rc (fun W'=>A9 W' s pS pP)<|Bc (w.heap.size+1) #[.int .i64 (k:Int),.int .i64 fr,.int .i64 wd,.int .i64 (N:Int)] 79<|Bc w4.heap.size #[.string s.name,.int .i64 s.eps,.int .i64 s.floor,.int .i64 s.last,.int .i64 s.scale,.slice pS s.segs.length capS,.slice pP s.opn.length capP] 25<|Bz) ?_ (hI:=by exact Aa) (hR:=(Rc.mk (by first|exact b1|exact(A9.alloc b1 _).below (by assumption)|exact b1.below (by assumption)|exact b1.below Aa)<|Bc.mk (by exact Ab)<|Bc.mk (by exact Ab)<|trivial))
  clear b1 b2 b3 hW
  rintro W15 hW z16 ⟨b1,⟨b2,yb2,k2,f2⟩,⟨b3,yb3,k3,f3⟩,-⟩
  go_wp2
  refine wp_loop (bhRel W15 s pb cb by_ pS capS (w.heap.size+1) w4.heap.size) (fun a' _=>s.segs.length-(Aq (a'.tmps.getD 41 undef)).toNat) ?_ ?_
  ·unfold bhRel
   exact⟨Below.refl _ _,0,_,Ca.nil _ _ _ _,Ag rfl,Nat.zero_le _⟩
  clear k2 f2 k3 f3
  obtain⟨gr,hgr⟩:∃g,(w.heap.size+1)=g:=⟨_,rfl⟩
  obtain⟨gs,hgs⟩:∃g,w4.heap.size=g:=⟨_,rfl⟩
  rw[hgr] at b2⊢
  rw[hgs] at b3⊢
  clear hgr hgs
  obtain⟨w5,hw5⟩:∃W,W15=W:=⟨_,rfl⟩
  rw[hw5] at b1 b2 b3 hW⊢
  clear hw5
  have hBb:=Hd hW
  replace hbk9:=hbk9 trivial
  rintro a' W ⟨hW0,i,v,hown,⟨u,rfl⟩,hi'⟩
  have hz:=hW0.size
  rcases Nat.lt_or_ge i s.segs.length with hlt|hge
  ·
   obtain⟨x,hx⟩:∃x,s.segs[i]? =some x:=⟨s.segs[i]'hlt,List.getElem?_eq_getElem hlt⟩
   obtain⟨bs,os,p',q',cps,vc,rfl,hs,-,v0,v1,v2,v3,v4,v5,v6,v7⟩:=(b1.below hW0).segs.one hx
   have hpl:(B2 x).length<=256:=by
    have h1:=Ew (hv trivial x (List.mem_of_getElem? hx))
    have h2:=Da (Bj (hv trivial x (List.mem_of_getElem? hx)))
    omega
   have cP:=Hd (fun W' (hW':Below W.heap.size W W')=>Yk x p' q' cps vc W' (hs.below hW') (hv trivial x (List.mem_of_getElem? hx)))
   unfold C7 at cP
   go_wp2_with fail
   refine(cP.out _ Aa).mono ?_
   rintro e w21 ⟨gp,cp,rfl,hb21,hP,hgp⟩
   have z22:=hb21.size
   try simp at z22
   refine Ad W w21 (Bc W.heap.size #[.int .i64 x.K,.slice p' x.runs.length cps,.int .i64 x.A,.int .i64 x.R,.int .i64 x.n,.int .i64 x.d,.slice q' x.raw.length vc,.int .i64 x.E] 98<|Bz) ?_
   rintro hW z23 ⟨⟨b1,yb1,k1,f1⟩,-⟩
   clear cP v0 v1 v2 v3 v4 v5 v6 v7
   go_wp2
   obtain⟨gx,hgx⟩:∃g,W.heap.size=g:=⟨_,rfl⟩
   refine wp_loop (Rj w5 s pb cb by_ (some ⟨bs,os,none⟩) capS gr gs gx gp cp i x p' q' cps vc) (fun a' _=>(B2 x).length-(Aq (a'.tmps.getD 54 undef)).toNat) ?_ ?_
   ·unfold Rj
    rw[<-hgx]
    exact⟨hW0.trans (hW.mono hz),b1,hP,0,v,by rw[Yp];exact hown.below hW,fun e=>by have:=(hown.own.lt _ e).2;simp at hgp;omega,Ag rfl,Nat.zero_le _⟩
   have hgp9:=Hd hgp
   clear hown hP hgp b1 hW hgx k1 f1
   rintro a'' W2 ⟨hX0,b1,hP,j,v',hown,hvg,⟨u',rfl⟩,hj'⟩
   have hX:=hX0.size
   rcases Nat.lt_or_ge j (B2 x).length with hjl|hjl
   ·obtain⟨⟨t,y⟩,hq⟩:∃q,(B2 x)[j]? =some q:=⟨(B2 x)[j]'hjl,List.getElem?_eq_getElem hjl⟩
    obtain⟨_,_,ep,u0,u1⟩:=hP.at' j _ hq
    obtain⟨rfl,rfl⟩:gp=_/\0=_:=by simpa using ep
    simp only[Nat.zero_add] at u0 u1
    have hgl2:=Br u0
    have st:=Hd (Yq (s:=s) (i:=i) hq)
    have hbd: -2305844108725321728<=y/\y<=2305844108725321728:=Lt (hv trivial x (List.mem_of_getElem? hx)) (by rw[<-Ng (hv trivial x (List.mem_of_getElem? hx))];exact List.mem_map_of_mem (f:=fun z:Int×Int=>z.2) (List.mem_of_getElem? hq))
    have hln9:=Hd (Nd by_ (Jm s i x j) 0)
    obtain⟨n,hn⟩:∃n,(rdG by_ 0 (Jm s i x j)).length=n:=⟨_,rfl⟩
    rw[hn] at hown hln9
    replace hn:=Hd hn
    obtain⟨pv,cv,rfl,-⟩:=hown.form
    have hn9:n<=100000:=by have:=bkAt_few hx hj';rw[hln9.out];omega
    rcases Nat.lt_or_ge n by_.length with hon|hoff
    ·obtain⟨d,hd⟩:∃d,by_[n]? =some d:=⟨by_[n]'hon,List.getElem?_eq_getElem hon⟩
     obtain⟨bb,ob,rfl,-⟩:=hby.at' n _ hd
     have b3:Gz W2 bb ob by_:=⟨(hby.below (hBb.out)).below hX0⟩
     replace hd:=Hd hd
     have hn0:¬((n:Int)<0):=by omega
     have hEb:=Nv (hv trivial x (List.mem_of_getElem? hx))
     have hdb:=P0 (d:=d) hEb.1
     have hn1:=hon
     have E1:=Hd (show wrap64 (x.E+1)=x.E+1 by rw[Ah];omega)
     have E2:=Hd (show wrap64 (y+d.tmod (x.E+1))=y+d.tmod (x.E+1) by rw[Ah];omega)
     have E3:=Hd (show¬(x.E+1=0) by omega)
     have hrd:=Hd (show rdG by_ 0 (Jm s i x (j+1))=rdG by_ 0 (Jm s i x j)++ [(t,y+d.tmod (x.E+1))] by rw[st.out,Nz,Nat.zero_add,<-hln9.out,rd1_on hd.out])
     have zx9:=b1.lt
     have k1:=b1.cell
     have f1:=b1.frozen
     go_upto_region 18 with(fail)
     have b2:=b1
     clear k1 f1
     refine Ac W2 (Bc gx #[.int .i64 x.K,.slice p' x.runs.length cps,.int .i64 x.A,.int .i64 x.R,.int .i64 x.n,.int .i64 x.d,.slice q' x.raw.length vc,.int .i64 x.E] 98<|Bc W2.heap.size #[.int .i64 t,.int .i64 y] 91<|Rc (fun W'=>Gz W' bb ob by_)<|Bz) ?_ (hI:=by exact Aa) (hR:=(Bc.mk (by exact Ab)<|Bc.mk (by exact Ab)<|Rc.mk (by first|exact b3|exact b3.below (by assumption)|exact b3.below Aa)<|trivial))
     clear b1 b2 b3
     rintro W61 hW z62 hL
     obtain⟨⟨b1,yb1,k1,f1⟩,⟨b2,yb2,k2,f2⟩,b3,-⟩:=id hL
     clear k1 f1 k2 f2
     refine Bh 13 346 hW hL ?_
     iterate 13 refine dE (fun W' hC=>aI (hC.2.2.2.1.cellAt hd.out) (aI hn0 (aI hn1 (aI (Nat.not_le.2 hn1) (aI E1.out (aI E2.out E3.out)))))) ?_
     clear hW hL b1 b2 b3
     rintro W63 hW z64 hL
     simp only[ndR]
     intros
     simp only[ndS]
     obtain⟨⟨b1,yb1,k1,f1⟩,⟨b2,yb2,k2,f2⟩,b3,-⟩:=hL
     go_upto_region 19 with(fail)
     clear k1 f1 k2 f2
     refine Ac W2 (Bc gx #[.int .i64 x.K,.slice p' x.runs.length cps,.int .i64 x.A,.int .i64 x.R,.int .i64 x.n,.int .i64 x.d,.slice q' x.raw.length vc,.int .i64 x.E] 98<|Bc W2.heap.size #[.int .i64 t,.int .i64 (y+d.tmod (x.E+1))] 91<|Bz) ?_
     clear b1 b2 hW
     rintro W65 hW z66 ⟨⟨b1,yb1,k1,f1⟩,⟨b2,yb2,k2,f2⟩,-⟩
     have hown':=(hown.below hW).own
     have hW9:=hX0.trans (hW.mono hX)
     have ya9:=hW9.size
     clear hown
     have hgl:gp<W65.heap.size:=by have:=hW.size;omega
     replace hP:=hP.below hW
     obtain⟨v2,w9,hr9,hown2,hgr,hfar⟩:=Kx (P:=Tryz.prog) (W:=W65.alloc (.cells #[.int .i64 t,.int .i64 (y+d.tmod (x.E+1))] 91)) w5.heap.size 23 23 91 i0 (.agg #[.int .i64 0,.int .i64 0]) 2 16 (by kernel_rfl) hi0 hz0 hz1 hz2 rfl (by decide) _ n _ (hown'.alloc _) ⟨W65.heap.size,0,none⟩ 1 1 [.int .i64 t,.int .i64 (y+d.tmod (x.E+1))] rfl (Em _ _ _ _) (by simp[Value.oneCell']) (by simp[maxLen];omega) (by omega) (by simp;omega)
     have hB2:=Hd (Fp hW9 ya9 hown' hgr)
     have b9:=b1.grown hown' (by decide) hgr
     have hP9:=hP.grown hgr hvg
     replace hfar:=Hd hfar
     replace hown2:=Hd hown2
     clear hgr hown' hP hW u0 u1
     go_wp2_with (at_builtin;refine Ed rfl (.tmp 76) (.tmp 78) 23 rfl _ _ v2 w9 rfl rfl hr9 ?_)
     clear hr9 b1 b2 k1 f1 k2 f2
     go_wp2
     rw[show (j:Int)+1=((j+1:Nat):Int) by omega]
     refine⟨?_,by simp[Aq];omega⟩
     unfold Rj
     exact⟨hB2.out,b9,hP9,j+1,v2,⟨by rw[hrd.out,List.length_append,hn.out,Ej];exact hown2.out⟩,fun e=>(hfar.out _ e).elim (fun e1=>hvg e1) (fun e2=>by simp at e2;omega),Ag rfl,by omega⟩
    ·
     have hrd:=Hd (show rdG by_ 0 (Jm s i x (j+1))=rdG by_ 0 (Jm s i x j)++ [(t,y)] by rw[st.out,Nz,Nat.zero_add,<-hln9.out,rd1_off hoff])
     have zx9:=b1.lt
     have k1:=b1.cell
     have f1:=b1.frozen
     go_upto_region 19 with(fail)
     have b2:=b1
     clear k1 f1
     refine Ac W2 (Bc gx #[.int .i64 x.K,.slice p' x.runs.length cps,.int .i64 x.A,.int .i64 x.R,.int .i64 x.n,.int .i64 x.d,.slice q' x.raw.length vc,.int .i64 x.E] 98<|Bc W2.heap.size #[.int .i64 t,.int .i64 y] 91<|Bz) ?_
     clear b1 b2
     rintro W61 hW z62 ⟨⟨b1,yb1,k1,f1⟩,⟨b2,yb2,k2,f2⟩,-⟩
     have hown':=(hown.below hW).own
     have hW9:=hX0.trans (hW.mono hX)
     have ya9:=hW9.size
     clear hown
     have hgl:gp<W61.heap.size:=by have:=hW.size;omega
     replace hP:=hP.below hW
     obtain⟨v2,w9,hr9,hown2,hgr,hfar⟩:=Kx (P:=Tryz.prog) (W:=W61.alloc (.cells #[.int .i64 t,.int .i64 y] 91)) w5.heap.size 23 23 91 i0 (.agg #[.int .i64 0,.int .i64 0]) 2 16 (by kernel_rfl) hi0 hz0 hz1 hz2 rfl (by decide) _ n _ (hown'.alloc _) ⟨W61.heap.size,0,none⟩ 1 1 [.int .i64 t,.int .i64 y] rfl (Em _ _ _ _) (by simp[Value.oneCell']) (by simp[maxLen];omega) (by omega) (by simp;omega)
     have hB2:=Hd (Fp hW9 ya9 hown' hgr)
     have b9:=b1.grown hown' (by decide) hgr
     have hP9:=hP.grown hgr hvg
     replace hfar:=Hd hfar
     replace hown2:=Hd hown2
     clear hgr hown' hP hW u0 u1
     go_wp2_with (at_builtin;refine Ed rfl (.tmp 76) (.tmp 78) 23 rfl _ _ v2 w9 rfl rfl hr9 ?_)
     clear hr9 b1 b2 k1 f1 k2 f2
     go_wp2
     rw[show (j:Int)+1=((j+1:Nat):Int) by omega]
     refine⟨?_,by simp[Aq];omega⟩
     unfold Rj
     exact⟨hB2.out,b9,hP9,j+1,v2,⟨by rw[hrd.out,List.length_append,hn.out,Ej];exact hown2.out⟩,fun e=>(hfar.out _ e).elim (fun e1=>hvg e1) (fun e2=>by simp at e2;omega),Ag rfl,by omega⟩
   ·have hjx:j=(B2 x).length:=by omega
    subst hjx
    rw[Td hx] at hown
    clear b1 hP
    go_wp2
    rw[show (i:Int)+1=((i+1:Nat):Int) by omega]
    refine⟨?_,by simp[Aq];omega⟩
    unfold bhRel
    exact⟨hX0,i+1,v',hown,Ag rfl,by omega⟩
  ·have hiN:s.segs.length=i:=by omega
   subst hiN
   rw[List.take_length] at hown
   obtain⟨RD,hRDe⟩:∃RD,rdG by_ 0 (En s)=RD:=⟨_,rfl⟩
   have hRo:rdG by_ 0 (s.segs.flatMap Dy)++s.opn=RD:=by rw[<-hRDe];unfold En;rw[Vr,R8]
   obtain⟨R1,hR1⟩:∃R1,rdG by_ 0 (s.segs.flatMap Dy)=R1:=⟨_,rfl⟩
   rw[hR1] at hown hRo
   have hn9:R1.length<=100000:=by
    have h1:=Pr s s.segs.length
    rw[List.take_length] at h1
    rw[<-hR1,Nd]
    omega
   have hRD:=Hd (show RD.length=R1.length+s.opn.length by rw[<-hRo,List.length_append])
   have hRf:=Hd (show Ar R1++Ar s.opn=Ar RD by rw[<-hRo];unfold Ar;rw[List.flatMap_append])
   have hB5:=Hd (And.intro b1 (And.intro b2 b3))
   replace b1:=b1.below hW0
   replace b2:=b2.below hW0
   replace b3:=b3.below hW0
   have hRB9:=Hd (show∀q,q∈RD-> -4611686018427387904<=q.2/\q.2<=4611686018427387904 from by rw[<-hRDe];exact hRB trivial)
   have hRD9:=Hd (show RD.length<=100000 by rw[<-hRDe,Nd];exact hbk9)
   clear hR1 hRo
   have k2:=b2.cell
   have f2:=b2.frozen
   have k3:=b3.cell
   have f3:=b3.frozen
   obtain⟨p0,c0,rfl,-⟩:=hown.form
   obtain⟨v1,w7,hr9,hown1,hgr⟩:=Tj hown.own hn9 pP s.opn capP (b1.opn) hfO hz
   have hW7:Below w5.heap.size w5 w7:=hW0.grown hgr hz (fun j ej=>(hown.own.lt j ej).1)
   have hz7:=hW7.size
   replace hown1:=Hd (show w7.ownsRow w5.heap.size 91 2 v1 (R1.length+s.opn.length) (Ar RD) by rw[<-hRf.out];exact hown1)
   clear hgr hown
   obtain⟨pv,cv,rfl,hRd⟩:∃pv cv,v1= .slice pv RD.length cv/\A5 w7 pv RD:=Zk hown1.out hRD.out
   clear hown1
   have d2:=(hB5.out.2.1).below hW7
   have d3:=(hB5.out.2.2).below hW7
   have m2:=d2.cell
   have n2:=d2.frozen
   have m3:=d3.cell
   have n3:=d3.frozen
   go_wp2_with (at_builtin;refine Ed rfl (.tmp 82) (.tmp 84) 23 rfl _ _ _ w7 rfl rfl hr9 ?_)
   clear hr9 m2 n2 m3 n3 k2 f2 k3 f3
   replace b1:=(hB5.out.1).below hW7
   clear b2 b3
   have b2:=d2
   have b3:=d3
   clear hW0 d2 d3
   have hW:=hW7
   clear hW7
   have b4:=hRd
   clear hRd
   refine(H_cL.out (by trivial) _ pS capS pP capP b1).mono ?_
   rintro e w121 ⟨pl,jl,rfl,hL,hb121⟩
   have z122:=hb121.size
   try simp at z122
   refine Ad w5 w121 (Rc (fun W'=>A9 W' s pS pP)<|Bc gr #[.int .i64 (k:Int),.int .i64 fr,.int .i64 wd,.int .i64 (N:Int)] 79<|Bc gs #[.string s.name,.int .i64 s.eps,.int .i64 s.floor,.int .i64 s.last,.int .i64 s.scale,.slice pS s.segs.length capS,.slice pP s.opn.length capP] 25<|Rc (fun W'=>A5 W' pv RD)<|Bz) ?_ (hR:=(Rc.mk (by first|exact b1|exact(A9.alloc b1 _).below (by assumption)|exact b1.below (by assumption)|exact b1.below Aa)<|Bc.mk (by exact Ab)<|Bc.mk (by exact Ab)<|Rc.mk (by first|exact b4|exact b4.below (by assumption)|exact b4.below Aa)<|trivial))
   clear b1 b2 b3 b4 hW
   rintro hW z123 ⟨b1,⟨b2,yb2,k2,f2⟩,⟨b3,yb3,k3,f3⟩,b4,-⟩
   have b5:=hL
   clear hL
   go_upto_region 27 with(fail)
   clear k2 f2 k3 f3
   refine Ac w5 (Rc (fun W'=>A9 W' s pS pP)<|Bc gr #[.int .i64 (k:Int),.int .i64 fr,.int .i64 wd,.int .i64 (N:Int)] 79<|Bc gs #[.string s.name,.int .i64 s.eps,.int .i64 s.floor,.int .i64 s.last,.int .i64 s.scale,.slice pS s.segs.length capS,.slice pP s.opn.length capP] 25<|Rc (fun W'=>A5 W' pv RD)<|Rc (fun W'=>Cm W' pl (ls.map (D5 k)))<|Bz) ?_ (hI:=by exact Aa) (hR:=(Rc.mk (by first|exact b1|exact(A9.alloc b1 _).below (by assumption)|exact b1.below (by assumption)|exact b1.below Aa)<|Bc.mk (by exact Ab)<|Bc.mk (by exact Ab)<|Rc.mk (by first|exact b4|exact b4.below (by assumption)|exact b4.below Aa)<|Rc.mk (by first|exact b5|exact b5.below (by assumption)|exact b5.below Aa)<|trivial))
   clear b1 b2 b3 b4 b5 hW
   rintro W124 hW z125 ⟨b1,⟨b2,yb2,k2,f2⟩,⟨b3,yb3,k3,f3⟩,b4,b5,-⟩
   go_wp2
   refine wp_loop (Hl W124 N pv RD.length cv pl jl gr gs) (fun a' _=>N-(Aq (a'.tmps.getD 103 undef)).toNat) ?_ ?_
   ·unfold Hl
    exact⟨Below.refl _ _,0,Ag rfl,Nat.zero_le _⟩
   clear k2 f2 k3 f3
   obtain⟨w9,hw9⟩:∃W,W124=W:=⟨_,rfl⟩
   rw[hw9] at b1 b2 b3 b4 b5 hW⊢
   clear hw9 b1
   have hB9:=Hd hW
   clear hW
   rintro a' W ⟨hW0,i,⟨u,rfl⟩,hi'⟩
   have hz:=hW0.size
   have hlen:=Hd hln
   clear hln
   rcases Nat.lt_or_ge i N with hlt|hge
   ·obtain⟨l,hl⟩:∃l,ls[i]? =some l:=⟨ls[i]'(by have:=hlen.out (by trivial);omega),List.getElem?_eq_getElem _⟩
    have hLr:(ls.map (D5 k))[i]? =some (D5 k l):=by rw[List.getElem?_map,hl];rfl
    obtain⟨bl,ol,rfl,-⟩:=(b5.below hW0).at' i _ hLr
    have r5:Nc W bl ol (ls.map (D5 k)):=⟨b5.below hW0⟩
    obtain⟨⟨rer,rn,rx,ry,rm0,rm1,rm2,rm3,rm4⟩,hr⟩:∃r,D5 k l=r:=⟨_,rfl⟩
    rw[hr] at hLr
    obtain⟨q0,q1,q2,q3,q4,q5,q6,q7,q8⟩:=r5.cellAt hLr
    simp only at q0 q1 q2 q3 q4 q5 q6 q7 q8
    replace hr:=Hd hr
    have hB6:=Hd (And.intro b2 (And.intro b3 b4))
    replace b2:=b2.below hW0
    replace b3:=b3.below hW0
    replace b4:=b4.below hW0
    clear r5 hLr b5
    have b1:=b2
    clear b2
    have b2:=b3
    clear b3
    have b3:=b4
    clear b4
    have hW:=hW0
    obtain⟨fst,hfst⟩:∃f,fr+(i:Int)*wd=f:=⟨_,rfl⟩
    have hp1:0<=(i:Int)*wd:=Int.mul_nonneg (by omega) (by omega)
    have hp2:(i:Int)*wd<=64*wd:=Int.mul_le_mul_of_nonneg_right (by omega) (by omega)
    have EF:=Hd (show wrap64 (fr+wrap64 ((i:Int)*wd))=fst by rw[<-hfst];obtain⟨z,hz⟩:∃z,(i:Int)*wd=z:=⟨_,rfl⟩;rw[hz] at hp1 hp2⊢;simp only[Ah];omega)
    have hf0:0<=fst:=by omega
    have hf1:fst<=18296140363726848:=by omega
    clear hp1 hp2
    replace hfst:=Hd hfst
    have hmin:∀ts t x y w,(Builtin.min_ ts t #[.int .i64 x,.int .i64 y]).run Tryz.prog w= .ok (.int .i64 (mn x y)) w:=fun ts t x y w=>by simp[Builtin.min_,Builtin.min2,mn]
    have hmax:∀ts t x y w,(Builtin.max_ ts t #[.int .i64 x,.int .i64 y]).run Tryz.prog w= .ok (.int .i64 (mx x y)) w:=fun ts t x y w=>by simp[Builtin.max_,Builtin.max2,mx]
    have k1:=b1.cell
    have f1:=b1.frozen
    have k2:=b2.cell
    have f2:=b2.frozen
    have zl1:=b1.lt
    have zl2:=b2.lt
    go_upto_region 30 with(fail)
    rw[EF.out]
    clear q0 q1 q2 q3 q4 q5 q6 q7 q8
    go_upto_region 33 with(fail)
    clear k1 f1 k2 f2
    refine Ac w9 (Bc gr #[.int .i64 (k:Int),.int .i64 fr,.int .i64 wd,.int .i64 (N:Int)] 79<|Bc gs #[.string s.name,.int .i64 s.eps,.int .i64 s.floor,.int .i64 s.last,.int .i64 s.scale,.slice pS s.segs.length capS,.slice pP s.opn.length capP] 25<|Rc (fun W'=>A5 W' pv RD)<|Bc W.heap.size #[.int .i64 rer,.int .i64 rn,.int .i64 rx,.int .i64 ry,.int .i64 rm0,.int .i64 rm1,.int .i64 rm2,.int .i64 rm3,.int .i64 rm4] 67<|Bc (W.heap.size+1) #[.int .i64 0,.int .i64 0] 101<|Bz) ?_ (hI:=by exact Aa) (hR:=(Bc.mk (by exact Ab)<|Bc.mk (by exact Ab)<|Rc.mk (by first|exact b3|exact b3.below (by assumption)|exact b3.below Aa)<|Bc.mk (by exact Ab)<|Bc.mk (by exact Ab)<|trivial))
    clear b1 b2 b3 hW
    rintro W201 hW z202 ⟨⟨b1,yb1,k1,f1⟩,⟨b2,yb2,k2,f2⟩,b3,⟨b4,yb4,k4,f4⟩,⟨b5,yb5,k5,f5⟩,-⟩
    go_wp2
    refine wp_loop (Kv w9 N pv RD cv (some ⟨bl,ol,none⟩) jl gr gs W.heap.size (W.heap.size+1) i s.floor fst wd rer rn rx ry rm0 rm1 rm2 rm3 rm4) (fun a' _=>RD.length-(Aq (a'.tmps.getD 117 undef)).toNat) ?_ ?_
    ·unfold Kv
     exact⟨hW,b4,0,0,[],b5,rfl,rfl,Ag rfl,Nat.zero_le _⟩
    clear k1 f1 k2 f2 k4 f4 k5 f5
    obtain⟨g18,hg18⟩:∃g,W.heap.size=g:=⟨_,rfl⟩
    obtain⟨g23,hg23⟩:∃g,W.heap.size+1=g:=⟨_,rfl⟩
    rw[hg23]
    rw[hg18]
    clear b4 b5 hW
    clear b1 b2 b3
    rintro a'' W2 ⟨hX0,b4,j,m,Q,b5,hQ,hm,⟨u',rfl⟩,hj'⟩
    have hX:=hX0.size
    have b1:=hB6.out.1.below hX0
    have b2:=hB6.out.2.1.below hX0
    have b3:=hB6.out.2.2.below hX0
    rcases Nat.lt_or_ge j RD.length with hjl|hjl
    ·obtain⟨⟨t,y⟩,hq⟩:∃q,RD[j]? =some q:=⟨RD[j]'hjl,List.getElem?_eq_getElem hjl⟩
     obtain⟨bp,op,rfl,u0,u1⟩:=b3.at' j _ hq
     simp only at u0 u1
     have hyb:=hRB9.out (t,y) (List.mem_of_getElem? hq)
     simp only at hyb
     have hQs:=Hd (Zl s.floor fst wd hq)
     have hQl:=Vv s.floor fst wd (RD.take j)
     rw[hQ,List.length_take] at hQl
     have hRl:=hRD9.out
     replace hQ:=Hd hQ
     by_cases c1:t<s.floor
     ·
      have e1:decide (t<s.floor)=true:=decide_eq_true c1
      have hQ9:=Hd (show qOf s.floor fst wd (RD.take (j+1))=Q by rw[hQs.out,hQ.out];unfold Nu;simp[c1])
      clear b3
      have zl1:=b1.lt
      have zl2:=b2.lt
      have k1:=b1.cell
      have f1:=b1.frozen
      have k2:=b2.cell
      have f2:=b2.frozen
      go_wp2
      rw[show (j:Int)+1=((j+1:Nat):Int) by omega]
      refine⟨?_,by simp[Aq];omega⟩
      unfold Kv
      exact⟨hX0.alloc hX _,b4.alloc _,j+1,m,Q,b5.alloc _,hQ9.out,hm,Ag rfl,by omega⟩
     ·by_cases c2:t<fst
      ·
       have e1:decide (t<s.floor)=false:=decide_eq_false c1
       have e2:decide (t<fst)=true:=decide_eq_true c2
       have hQ9:=Hd (show qOf s.floor fst wd (RD.take (j+1))=Q by rw[hQs.out,hQ.out];unfold Nu;simp[c1,c2])
       clear b3
       have zl1:=b1.lt
       have zl2:=b2.lt
       have k1:=b1.cell
       have f1:=b1.frozen
       have k2:=b2.cell
       have f2:=b2.frozen
       go_wp2
       rw[show (j:Int)+1=((j+1:Nat):Int) by omega]
       refine⟨?_,by simp[Aq];omega⟩
       unfold Kv
       exact⟨hX0.alloc hX _,b4.alloc _,j+1,m,Q,b5.alloc _,hQ9.out,hm,Ag rfl,by omega⟩
      ·by_cases c3:fst+wd-1<t
       ·
        have e1:decide (t<s.floor)=false:=decide_eq_false c1
        have e2:decide (t<fst)=false:=decide_eq_false c2
        have e3:decide (fst+wd-1<t)=true:=decide_eq_true c3
        have hQ9:=Hd (show qOf s.floor fst wd (RD.take (j+1))=Q by rw[hQs.out,hQ.out];unfold Nu;simp[c1,c2,c3])
        clear b3
        have zl1:=b1.lt
        have zl2:=b2.lt
        have k1:=b1.cell
        have f1:=b1.frozen
        have k2:=b2.cell
        have f2:=b2.frozen
        go_wp2
        rw[show (j:Int)+1=((j+1:Nat):Int) by omega]
        refine⟨?_,by simp[Aq];omega⟩
        unfold Kv
        exact⟨hX0.alloc hX _,b4.alloc _,j+1,m,Q,b5.alloc _,hQ9.out,hm,Ag rfl,by omega⟩
       ·have e1:decide (t<s.floor)=false:=decide_eq_false c1
        have e2:decide (t<fst)=false:=decide_eq_false c2
        have e3:decide (fst+wd-1<t)=false:=decide_eq_false c3
        have hQ9:=Hd (show qOf s.floor fst wd (RD.take (j+1))=Q++ [y] by rw[hQs.out,hQ.out];unfold Nu;simp[c1,c2,c3])
        have hhb:=Qq (l:=Q) fun v hv=>by
         rw[<-hQ.out] at hv
         obtain⟨t',ht'⟩:=Vu hv
         exact hRB9.out _ (List.mem_of_mem_take ht')
        have hz9:w9.heap.size<=g23:=by omega
        by_cases hz0:Q= []
        ·subst hz0
         obtain rfl:(0:Int)=m:=by rw[<-hm];rfl
         have EL:=Hd (show mn y y=Aw ([]++ [y]) by have:=F7 y y;show mn y y=y;omega)
         have EM:=Hd (show mx y y=Ay ([]++ [y]) by have:=Ha y y;show mx y y=y;omega)
         have E0:=Hd (show wrap64 (1:Int)=1 by rw[Ah];rfl)
         have E1:=Hd (show wrap64 (Dd []+y/1048576)=Dd []+y/1048576 by rw[Ah];omega)
         have E2:=Hd (show wrap64 (Dh []+y%1048576)=Dh []+y%1048576 by rw[Ah];omega)
         have zl1:=b1.lt
         have zl2:=b2.lt
         have zl4:=b4.lt
         have zl5:=b5.lt
         clear b3
         have b3:=b4
         clear b4
         have b4:=b5
         clear b5
         have k1:=b1.cell
         have f1:=b1.frozen
         have k2:=b2.cell
         have f2:=b2.frozen
         have k3:=b3.cell
         have f3:=b3.frozen
         have k4:=b4.cell
         have f4:=b4.frozen
         go_upto_region 38 with(fail)
         clear u0 u1
         have b5:=b4
         clear k1 f1 k2 f2 k3 f3 k4 f4
         refine Ac w9 (Bc gr #[.int .i64 (k:Int),.int .i64 fr,.int .i64 wd,.int .i64 (N:Int)] 79<|Bc gs #[.string s.name,.int .i64 s.eps,.int .i64 s.floor,.int .i64 s.last,.int .i64 s.scale,.slice pS s.segs.length capS,.slice pP s.opn.length capP] 25<|Bc g18 #[.int .i64 rer,.int .i64 rn,.int .i64 rx,.int .i64 ry,.int .i64 rm0,.int .i64 rm1,.int .i64 rm2,.int .i64 rm3,.int .i64 rm4] 67<|Bc g23 #[.int .i64 (Dd []),.int .i64 (Dh [])] 101<|Bc W2.heap.size #[.int .i64 t,.int .i64 y] 91<|Bz) ?_
         clear b1 b2 b3 b4 b5 hW
         rintro W301 hW z302 hL
         refine Bh 6 346 hW hL ?_
         iterate 6 refine dA ?_
         clear hW hL
         rintro W303 hW z304 hL
         simp only[ndR]
         intros
         simp only[ndS]
         refine wpList_nil ?_
         obtain⟨⟨b1,yb1,k1,f1⟩,⟨b2,yb2,k2,f2⟩,⟨b3,yb3,k3,f3⟩,⟨b4,yb4,k4,f4⟩,⟨b5,yb5,k5,f5⟩,-⟩:=hL
         go_upto_region 39 with(fail)
         clear k1 f1 k2 f2 k3 f3 k4 f4 k5 f5
         refine Ac w9 (Bc gr #[.int .i64 (k:Int),.int .i64 fr,.int .i64 wd,.int .i64 (N:Int)] 79<|Bc gs #[.string s.name,.int .i64 s.eps,.int .i64 s.floor,.int .i64 s.last,.int .i64 s.scale,.slice pS s.segs.length capS,.slice pP s.opn.length capP] 25<|Bc g18 #[.int .i64 rer,.int .i64 rn,.int .i64 rx,.int .i64 ry,.int .i64 rm0,.int .i64 rm1,.int .i64 rm2,.int .i64 rm3,.int .i64 rm4] 67<|Bc g23 #[.int .i64 (Dd []),.int .i64 (Dh [])] 101<|Bc W2.heap.size #[.int .i64 t,.int .i64 y] 91<|Bz) ?_
         clear b1 b2 b3 b4 b5 hW
         rintro W305 hW z306 hL
         obtain⟨⟨b1,yb1,k1,f1⟩,⟨b2,yb2,k2,f2⟩,⟨b3,yb3,k3,f3⟩,⟨b4,yb4,k4,f4⟩,⟨b5,yb5,k5,f5⟩,-⟩:=id hL
         clear k1 f1 k2 f2 k3 f3 k4 f4 k5 f5
         refine Bh 13 346 hW hL ?_
         iterate 3 refine dE (fun W' hC=>E0.out) ?_
         apply Aj (.int .i64 (Aw ([]++ [y]))) (hg:=rfl) (hal:=rfl)
         ·intro a' W' hC hE
          simp at hE
          simp[go_sem,Act.eval,hE,hmin,EL.out]
         iterate 3 refine dE (fun W' hC=>E0.out) ?_
         apply Aj (.int .i64 (Ay ([]++ [y]))) (hg:=rfl) (hal:=rfl)
         ·intro a' W' hC hE
          simp at hE
          simp[go_sem,Act.eval,hE,hmax,EM.out]
         iterate 5 refine dE (fun W' hC=>E0.out) ?_
         clear hW hL b1 b2 b3 b4 b5
         rintro W307 hW z308 hL
         simp only[ndR]
         intros
         simp only[ndS]
         refine wpList_nil ?_
         obtain⟨⟨b1,yb1,k1,f1⟩,⟨b2,yb2,k2,f2⟩,⟨b3,yb3,k3,f3⟩,⟨b4,yb4,k4,f4⟩,⟨b5,yb5,k5,f5⟩,-⟩:=hL
         go_upto_region 40 with(fail)
         clear k1 f1 k2 f2 k3 f3 k4 f4 k5 f5
         refine Ac w9 (Bc gr #[.int .i64 (k:Int),.int .i64 fr,.int .i64 wd,.int .i64 (N:Int)] 79<|Bc gs #[.string s.name,.int .i64 s.eps,.int .i64 s.floor,.int .i64 s.last,.int .i64 s.scale,.slice pS s.segs.length capS,.slice pP s.opn.length capP] 25<|Bc g18 #[.int .i64 rer,.int .i64 rn,.int .i64 rx,.int .i64 ry,.int .i64 rm0,.int .i64 rm1,.int .i64 rm2,.int .i64 rm3,.int .i64 rm4] 67<|Bc g23 #[.int .i64 (Dd []),.int .i64 (Dh [])] 101<|Bc W2.heap.size #[.int .i64 t,.int .i64 y] 91<|Bz) ?_
         clear b1 b2 b3 b4 b5 hW
         rintro W309 hW z310 ⟨⟨b1,yb1,k1,f1⟩,⟨b2,yb2,k2,f2⟩,⟨b3,yb3,k3,f3⟩,⟨b4,yb4,k4,f4⟩,⟨b5,yb5,k5,f5⟩,-⟩
         have hA20:=L9 y
         go_region
         try simp only[Exit.then]
         go_upto_region 41 with(fail)
         clear hA20
         clear k1 f1 k2 f2 k3 f3 k4 f4 k5 f5
         refine Ac w9 (Bc gr #[.int .i64 (k:Int),.int .i64 fr,.int .i64 wd,.int .i64 (N:Int)] 79<|Bc gs #[.string s.name,.int .i64 s.eps,.int .i64 s.floor,.int .i64 s.last,.int .i64 s.scale,.slice pS s.segs.length capS,.slice pP s.opn.length capP] 25<|Bc g18 #[.int .i64 rer,.int .i64 rn,.int .i64 rx,.int .i64 ry,.int .i64 rm0,.int .i64 rm1,.int .i64 rm2,.int .i64 rm3,.int .i64 rm4] 67<|Bc g23 #[.int .i64 (Dd []+y/1048576),.int .i64 (Dh []+y%1048576)] 101<|Bc W2.heap.size #[.int .i64 t,.int .i64 y] 91<|Bz) ?_ (hI:=by exact Below.drew Aa) (hR:=(Bc.mk (by exact Blk.drew Ab)<|Bc.mk (by exact Blk.drew Ab)<|Bc.mk (by exact Blk.drew Ab)<|Bc.mk (by exact Blk.drew Ab)<|Bc.mk (by exact Blk.drew Ab)<|trivial))
         clear b1 b2 b3 b4 b5 hW
         rintro W311 hW z312 ⟨⟨b1,yb1,k1,f1⟩,⟨b2,yb2,k2,f2⟩,⟨b3,yb3,k3,f3⟩,⟨b4,yb4,k4,f4⟩,⟨b5,yb5,k5,f5⟩,-⟩
         go_wp2
         rw[show (j:Int)+1=((j+1:Nat):Int) by omega]
         refine⟨?_,by simp[Aq];omega⟩
         unfold Kv
         exact⟨by exact Aa,by exact Ab,j+1,1,[]++ [y],by rw[Pq,Pm];exact Ab,hQ9.out,by first|rfl|(rw[List.length_append,<-hm];rfl)|(simp;omega),Ag rfl,by omega⟩
        ·have hm0:0<m:=by have:=List.length_pos_iff.2 hz0;omega
         have EL:=Hd (show mn (Aw Q) y=Aw (Q++ [y]) by rw[L5 hz0])
         have EM:=Hd (show mx (Ay Q) y=Ay (Q++ [y]) by rw[L6 hz0])
         have E0:=Hd (show wrap64 (m+1)=m+1 by rw[Ah];omega)
         have E1:=Hd (show wrap64 (Dd Q+y/1048576)=Dd Q+y/1048576 by rw[Ah];omega)
         have E2:=Hd (show wrap64 (Dh Q+y%1048576)=Dh Q+y%1048576 by rw[Ah];omega)
         have zl1:=b1.lt
         have zl2:=b2.lt
         have zl4:=b4.lt
         have zl5:=b5.lt
         clear b3
         have b3:=b4
         clear b4
         have b4:=b5
         clear b5
         have k1:=b1.cell
         have f1:=b1.frozen
         have k2:=b2.cell
         have f2:=b2.frozen
         have k3:=b3.cell
         have f3:=b3.frozen
         have k4:=b4.cell
         have f4:=b4.frozen
         go_upto_region 39 with(fail)
         clear u0 u1
         have b5:=b4
         clear k1 f1 k2 f2 k3 f3 k4 f4
         refine Ac w9 (Bc gr #[.int .i64 (k:Int),.int .i64 fr,.int .i64 wd,.int .i64 (N:Int)] 79<|Bc gs #[.string s.name,.int .i64 s.eps,.int .i64 s.floor,.int .i64 s.last,.int .i64 s.scale,.slice pS s.segs.length capS,.slice pP s.opn.length capP] 25<|Bc g18 #[.int .i64 rer,.int .i64 rn,.int .i64 rx,.int .i64 ry,.int .i64 rm0,.int .i64 rm1,.int .i64 rm2,.int .i64 rm3,.int .i64 rm4] 67<|Bc g23 #[.int .i64 (Dd Q),.int .i64 (Dh Q)] 101<|Bc W2.heap.size #[.int .i64 t,.int .i64 y] 91<|Bz) ?_
         clear b1 b2 b3 b4 b5 hW
         rintro W301 hW z302 hL
         obtain⟨⟨b1,yb1,k1,f1⟩,⟨b2,yb2,k2,f2⟩,⟨b3,yb3,k3,f3⟩,⟨b4,yb4,k4,f4⟩,⟨b5,yb5,k5,f5⟩,-⟩:=id hL
         clear k1 f1 k2 f2 k3 f3 k4 f4 k5 f5
         refine Bh 13 346 hW hL ?_
         iterate 3 refine dE (fun W' hC=>E0.out) ?_
         apply Aj (.int .i64 (Aw (Q++ [y]))) (hg:=rfl) (hal:=rfl)
         ·intro a' W' hC hE
          simp at hE
          simp[go_sem,Act.eval,hE,hmin,EL.out]
         iterate 3 refine dE (fun W' hC=>E0.out) ?_
         apply Aj (.int .i64 (Ay (Q++ [y]))) (hg:=rfl) (hal:=rfl)
         ·intro a' W' hC hE
          simp at hE
          simp[go_sem,Act.eval,hE,hmax,EM.out]
         iterate 5 refine dE (fun W' hC=>E0.out) ?_
         clear hW hL b1 b2 b3 b4 b5
         rintro W303 hW z304 hL
         simp only[ndR]
         intros
         simp only[ndS]
         refine wpList_nil ?_
         obtain⟨⟨b1,yb1,k1,f1⟩,⟨b2,yb2,k2,f2⟩,⟨b3,yb3,k3,f3⟩,⟨b4,yb4,k4,f4⟩,⟨b5,yb5,k5,f5⟩,-⟩:=hL
         go_upto_region 40 with(fail)
         clear k1 f1 k2 f2 k3 f3 k4 f4 k5 f5
         refine Ac w9 (Bc gr #[.int .i64 (k:Int),.int .i64 fr,.int .i64 wd,.int .i64 (N:Int)] 79<|Bc gs #[.string s.name,.int .i64 s.eps,.int .i64 s.floor,.int .i64 s.last,.int .i64 s.scale,.slice pS s.segs.length capS,.slice pP s.opn.length capP] 25<|Bc g18 #[.int .i64 rer,.int .i64 rn,.int .i64 rx,.int .i64 ry,.int .i64 rm0,.int .i64 rm1,.int .i64 rm2,.int .i64 rm3,.int .i64 rm4] 67<|Bc g23 #[.int .i64 (Dd Q),.int .i64 (Dh Q)] 101<|Bc W2.heap.size #[.int .i64 t,.int .i64 y] 91<|Bz) ?_
         clear b1 b2 b3 b4 b5 hW
         rintro W305 hW z306 ⟨⟨b1,yb1,k1,f1⟩,⟨b2,yb2,k2,f2⟩,⟨b3,yb3,k3,f3⟩,⟨b4,yb4,k4,f4⟩,⟨b5,yb5,k5,f5⟩,-⟩
         have hA20:=L9 y
         go_region
         try simp only[Exit.then]
         go_upto_region 41 with(fail)
         clear hA20
         clear k1 f1 k2 f2 k3 f3 k4 f4 k5 f5
         refine Ac w9 (Bc gr #[.int .i64 (k:Int),.int .i64 fr,.int .i64 wd,.int .i64 (N:Int)] 79<|Bc gs #[.string s.name,.int .i64 s.eps,.int .i64 s.floor,.int .i64 s.last,.int .i64 s.scale,.slice pS s.segs.length capS,.slice pP s.opn.length capP] 25<|Bc g18 #[.int .i64 rer,.int .i64 rn,.int .i64 rx,.int .i64 ry,.int .i64 rm0,.int .i64 rm1,.int .i64 rm2,.int .i64 rm3,.int .i64 rm4] 67<|Bc g23 #[.int .i64 (Dd Q+y/1048576),.int .i64 (Dh Q+y%1048576)] 101<|Bc W2.heap.size #[.int .i64 t,.int .i64 y] 91<|Bz) ?_ (hI:=by exact Below.drew Aa) (hR:=(Bc.mk (by exact Blk.drew Ab)<|Bc.mk (by exact Blk.drew Ab)<|Bc.mk (by exact Blk.drew Ab)<|Bc.mk (by exact Blk.drew Ab)<|Bc.mk (by exact Blk.drew Ab)<|trivial))
         clear b1 b2 b3 b4 b5 hW
         rintro W307 hW z308 ⟨⟨b1,yb1,k1,f1⟩,⟨b2,yb2,k2,f2⟩,⟨b3,yb3,k3,f3⟩,⟨b4,yb4,k4,f4⟩,⟨b5,yb5,k5,f5⟩,-⟩
         go_wp2
         rw[show (j:Int)+1=((j+1:Nat):Int) by omega]
         refine⟨?_,by simp[Aq];omega⟩
         unfold Kv
         exact⟨by exact Aa,by exact Ab,j+1,m+1,Q++ [y],by rw[Pq,Pm];exact Ab,hQ9.out,by first|rfl|(rw[List.length_append,<-hm];rfl)|(simp;omega),Ag rfl,by omega⟩
    ·obtain rfl:j=RD.length:=by omega
     rw[List.take_length] at hQ
     obtain⟨he0,he4,hways⟩:=hfin.out
     obtain⟨hnr,hfar,hl9⟩:=hways i l hl
     rw[hRDe,hfst.out,hQ] at hnr
     have ways:=X0 hk.1 hk.2 hnr hfar he0 he4 hl9
     rw[hr.out] at ways
     simp only[Dl.mk.injEq] at ways
     rw[hm] at ways
     have hQl:=Vv s.floor fst wd RD
     rw[hQ] at hQl
     have hRl:=hRD9.out
     have hQb:∀v,v∈Q-> -4611686018427387904<=v/\v<=4611686018427387904:=fun v hv=>by
      rw[<-hQ] at hv
      obtain⟨t',ht'⟩:=Vu hv
      exact hRB9.out _ ht'
     replace hQb:=Hd hQb
     clear hnr hfar hl9 hways
     replace ways:=Hd ways
     replace hQ:=Hd hQ
     by_cases hq0:Q= []
     ·subst hq0
      obtain rfl:(0:Int)=m:=by rw[<-hm];rfl
      rcases ways.out with⟨-,⟨rfl,rfl,rfl,rfl,rfl,rfl,rfl,rfl,rfl,rfl⟩|⟨hk1,rfl,rfl,rfl,rfl,rfl,rfl,rfl,rfl,rfl⟩⟩|⟨hq1,-⟩
      ·
       have zl1:=b1.lt
       have zl2:=b2.lt
       have zl4:=b4.lt
       have zl5:=b5.lt
       clear b3
       have b3:=b4
       clear b4
       have b4:=b5
       clear b5
       have k1:=b1.cell
       have f1:=b1.frozen
       have k2:=b2.cell
       have f2:=b2.frozen
       have k3:=b3.cell
       have f3:=b3.frozen
       have k4:=b4.cell
       have f4:=b4.frozen
       go_wp2
       rw[show (i:Int)+1=((i+1:Nat):Int) by omega]
       refine⟨?_,by simp[Aq];omega⟩
       unfold Hl
       exact⟨by exact Aa,i+1,Ag rfl,by omega⟩
      ·
       have zl1:=b1.lt
       have zl2:=b2.lt
       have zl4:=b4.lt
       have zl5:=b5.lt
       clear b3
       have b3:=b4
       clear b4
       have b4:=b5
       clear b5
       have k1:=b1.cell
       have f1:=b1.frozen
       have k2:=b2.cell
       have f2:=b2.frozen
       have k3:=b3.cell
       have f3:=b3.frozen
       have k4:=b4.cell
       have f4:=b4.frozen
       go_wp2
       rw[show (i:Int)+1=((i+1:Nat):Int) by omega]
       refine⟨?_,by simp[Aq];omega⟩
       unfold Hl
       exact⟨by exact Aa,i+1,Ag rfl,by omega⟩
      ·exact absurd rfl hq1
     ·have hm0:0<m:=by have:=List.length_pos_iff.2 hq0;omega
      have hhb:=Qq hQb.out
      have hs20:=P6 Q
      have hmn:=hQb.out _ (C8 hq0).1
      have hmx:=hQb.out _ (C9 hq0).1
      have hA20:=L9 (Dh Q)
      rw[hm] at hhb
      have hm9:m<=100000:=by omega
      have EA:=Hd (show wrap64 (Dd Q+Dh Q/1048576)=Dd Q+Dh Q/1048576 by rw[Ah];omega)
      obtain⟨X,hX⟩:∃X,wrap64 (wrap64 ((Dd Q+Dh Q/1048576)*1048576)+Dh Q%1048576)=X:=⟨_,rfl⟩
      obtain⟨f1,hf1⟩:∃b,decide (-1099511627776<Dd Q)=b:=⟨_,rfl⟩
      obtain⟨f2,hf2⟩:∃b,decide (Dd Q<1099511627776)=b:=⟨_,rfl⟩
      obtain⟨fb,hfb⟩:∃b,(f1&&f2)=b:=⟨_,rfl⟩
      have hfit:fb=true->X=Ak Q/\ -1152922604119523328<=Ak Q/\Ak Q<=1152922604119523328:=by
       intro hb
       rw[<-hfb,<-hf1,<-hf2,Bool.and_eq_true,decide_eq_true_eq,decide_eq_true_eq] at hb
       rw[<-hX]
       simp only[Ah]
       omega
      have hnof:¬(-1099511627776<Dd Q/\Dd Q<1099511627776)->fb=false:=by
       intro hb
       rw[<-hfb,<-hf1,<-hf2]
       by_cases c: -1099511627776<Dd Q
       ·rw[decide_eq_false (p:=Dd Q<1099511627776) fun h=>hb ⟨c,h⟩,Bool.and_false]
       ·rw[decide_eq_false c,Bool.false_and]
      have EX:=Hd hX
      replace hf1:=Hd hf1
      replace hf2:=Hd hf2
      replace hfb:=Hd hfb
      replace hfit:=Hd hfit
      replace hnof:=Hd hnof
      clear hX hs20
      have zl1:=b1.lt
      have zl2:=b2.lt
      have zl4:=b4.lt
      have zl5:=b5.lt
      clear b3
      have b3:=b4
      clear b4
      have b4:=b5
      clear b5
      have k1:=b1.cell
      have f1:=b1.frozen
      have k2:=b2.cell
      have f2:=b2.frozen
      have k3:=b3.cell
      have f3:=b3.frozen
      have k4:=b4.cell
      have f4:=b4.frozen
      go_upto_region 45 with(fail)
      clear k1 f1 k2 f2 k3 f3 k4 f4
      refine Ac w9 (Bc gr #[.int .i64 (k:Int),.int .i64 fr,.int .i64 wd,.int .i64 (N:Int)] 79<|Bc gs #[.string s.name,.int .i64 s.eps,.int .i64 s.floor,.int .i64 s.last,.int .i64 s.scale,.slice pS s.segs.length capS,.slice pP s.opn.length capP] 25<|Bc g18 #[.int .i64 rer,.int .i64 rn,.int .i64 rx,.int .i64 ry,.int .i64 rm0,.int .i64 rm1,.int .i64 rm2,.int .i64 rm3,.int .i64 rm4] 67<|Bc g23 #[.int .i64 (Dd Q),.int .i64 (Dh Q)] 101<|Bz) ?_
      clear b1 b2 b3 b4 hW
      rintro W501 hW z502 hL
      refine Ci 12 346 hW hL ?_
      iterate 12 refine dE (fun W' hC=>aI hA20 (aI EA.out EX.out)) ?_
      clear hW hL
      rintro W503 hW z504 hL
      simp only[ndR]
      intros
      simp only[ndS]
      refine wpList_nil ?_
      obtain⟨⟨b1,yb1,k1,f1⟩,⟨b2,yb2,k2,f2⟩,⟨b3,yb3,k3,f3⟩,⟨b4,yb4,k4,f4⟩,-⟩:=hL
      go_upto_region 46 with(fail)
      clear k1 f1 k2 f2 k3 f3 k4 f4
      refine Ac w9 (Bc gr #[.int .i64 (k:Int),.int .i64 fr,.int .i64 wd,.int .i64 (N:Int)] 79<|Bc gs #[.string s.name,.int .i64 s.eps,.int .i64 s.floor,.int .i64 s.last,.int .i64 s.scale,.slice pS s.segs.length capS,.slice pP s.opn.length capP] 25<|Bc g18 #[.int .i64 rer,.int .i64 rn,.int .i64 rx,.int .i64 ry,.int .i64 rm0,.int .i64 rm1,.int .i64 rm2,.int .i64 rm3,.int .i64 rm4] 67<|Bc g23 #[.int .i64 (Dd Q),.int .i64 (Dh Q)] 101<|Bz) ?_
      clear b1 b2 b3 b4 hW
      rintro W505 hW z506 hL
      refine Ci 9 346 hW hL ?_
      iterate 4 refine dE (fun W' hC=>aI hf1.out hf2.out) ?_
      iterate 3 refine gE (fun W' hC=>aI hf1.out hf2.out) ?_
      refine pA ?_
      refine dE (fun W' hC=>aI hf1.out hf2.out) ?_
      clear hW hL
      rintro W507 hW z508 hL
      simp only[ndR]
      intros
      simp only[ndS]
      refine wpList_nil ?_
      obtain⟨⟨b1,yb1,k1,f1⟩,⟨b2,yb2,k2,f2⟩,⟨b3,yb3,k3,f3⟩,⟨b4,yb4,k4,f4⟩,-⟩:=hL
      simp only[hfb.out]
      go_upto_region 47 with(fail)
      clear k1 f1 k2 f2 k3 f3 k4 f4
      refine Ac w9 (Bc gr #[.int .i64 (k:Int),.int .i64 fr,.int .i64 wd,.int .i64 (N:Int)] 79<|Bc gs #[.string s.name,.int .i64 s.eps,.int .i64 s.floor,.int .i64 s.last,.int .i64 s.scale,.slice pS s.segs.length capS,.slice pP s.opn.length capP] 25<|Bc g18 #[.int .i64 rer,.int .i64 rn,.int .i64 rx,.int .i64 ry,.int .i64 rm0,.int .i64 rm1,.int .i64 rm2,.int .i64 rm3,.int .i64 rm4] 67<|Bc g23 #[.int .i64 (Dd Q),.int .i64 (Dh Q)] 101<|Bz) ?_
      clear b1 b2 b3 b4 hW
      rintro W509 hW z510 ⟨⟨b1,yb1,k1,f1⟩,⟨b2,yb2,k2,f2⟩,⟨b3,yb3,k3,f3⟩,⟨b4,yb4,k4,f4⟩,-⟩
      rcases ways.out with⟨hq1,-⟩|⟨-,⟨rfl,rfl,rfl,rfl,rfl,rfl,rfl,rfl,rfl,rfl⟩|⟨rfl,x,y,⟨rfl,rfl,rfl,rfl,rfl,rfl,rfl,rfl,rfl⟩,h1,h2,h3⟩|⟨rfl,x,y,⟨rfl,rfl,rfl,rfl,rfl,rfl,rfl,rfl,rfl⟩,h1,h2,h3⟩|⟨rfl,hw4⟩|⟨rfl,a5,b5,c5,d5,⟨her,rfl,rfl,rfl,rfl,rfl,rfl,rfl,rfl⟩,h1,h2,h3,h4,h5,h6,h7,h8⟩⟩
      ·exact absurd hq1 hq0
      ·
       go_wp2
       rw[show (i:Int)+1=((i+1:Nat):Int) by omega]
       refine⟨?_,by simp[Aq];omega⟩
       unfold Hl
       exact⟨by exact Aa,i+1,Ag rfl,by omega⟩
      ·
       have hxy:rx<=ry:=by omega
       have hIx:I64 rx:=by unfold I64;omega
       have hIy:I64 ry:=by unfold I64;omega
       have E1:=Hd (show IntKind.u64.wrap s.eps=s.eps by simp only[Bu];omega)
       have E2:=Hd (show IntKind.u64.wrap (2*s.eps)=2*s.eps by simp only[Bu];omega)
       have E3:=Hd (show decide (2*s.eps<ry-rx)=false from decide_eq_false (by omega))
       go_upto_region 55 with(fail)
       clear k1 f1 k2 f2 k3 f3 k4 f4
       refine Ac w9 (Bc gr #[.int .i64 (((2:Nat):Int)),.int .i64 fr,.int .i64 wd,.int .i64 (N:Int)] 79<|Bc gs #[.string s.name,.int .i64 s.eps,.int .i64 s.floor,.int .i64 s.last,.int .i64 s.scale,.slice pS s.segs.length capS,.slice pP s.opn.length capP] 25<|Bc g18 #[.int .i64 0,.int .i64 0,.int .i64 rx,.int .i64 ry,.int .i64 0,.int .i64 0,.int .i64 0,.int .i64 0,.int .i64 0] 67<|Bc g23 #[.int .i64 (Dd Q),.int .i64 (Dh Q)] 101<|Bz) ?_
       clear b1 b2 b3 b4 hW
       rintro W511 hW z512 hL
       refine Bh 20 346 hW hL ?_
       iterate 4 refine dE (fun W' hC=>aI E1.out (aI E2.out E3.out)) ?_
       iterate 3 refine gE (fun W' hC=>aI E1.out (aI E2.out E3.out)) ?_
       apply Ce (p:=true) (hg:=rfl) (hd:=rfl) (hal:=rfl)
       ·intro v W' h
        simp at h
        simp
        exact h
       ·intro hp hx W' hC
        exact Ra rx ry (Aw Q) W' h1 h2
       ·intro hp hx a W' hC hE
        obtain⟨_,⟨-,-,k1,-⟩,⟨-,-,k2,-⟩,⟨-,-,k3,-⟩,⟨-,-,k4,-⟩,-⟩:=hC
        first
         |(simp[hx] at hE;simp[go_sem,Act.eval,iw,hE,k1,k2,k3,k4,E1.out,E2.out,E3.out];try rfl)
         |(clear hE;simp[go_sem,Act.eval,iw,k1,k2,k3,k4,E1.out,E2.out,E3.out];try rfl)
       refine gE (fun W' hC=>aI E1.out (aI E2.out E3.out)) ?_
       refine pO ?_
       refine dE (fun W' hC=>aI E1.out (aI E2.out E3.out)) ?_
       iterate 2 refine gE (fun W' hC=>aI E1.out (aI E2.out E3.out)) ?_
       apply Ce (p:=true) (hg:=rfl) (hd:=rfl) (hal:=rfl)
       ·intro v W' h
        simp at h
        simp
        exact h
       ·intro hp hx W' hC
        exact Mb rx ry W' hxy hIx hIy
       ·intro hp hx a W' hC hE
        obtain⟨_,⟨-,-,k1,-⟩,⟨-,-,k2,-⟩,⟨-,-,k3,-⟩,⟨-,-,k4,-⟩,-⟩:=hC
        first
         |(simp[hx] at hE;simp[go_sem,Act.eval,iw,hE,k1,k2,k3,k4,E1.out,E2.out,E3.out];try rfl)
         |(clear hE;simp[go_sem,Act.eval,iw,k1,k2,k3,k4,E1.out,E2.out,E3.out];try rfl)
       iterate 5 refine gE (fun W' hC=>aI E1.out (aI E2.out E3.out)) ?_
       refine pO ?_
       clear hW hL
       rintro W513 hW z514 hL
       simp only[ndR]
       intros
       repeat (rename Ap _ _ _ _=>hgd;clear hgd)
       simp only[ndS]
       refine wpList_nil ?_
       obtain⟨⟨b1,yb1,k1,f1⟩,⟨b2,yb2,k2,f2⟩,⟨b3,yb3,k3,f3⟩,⟨b4,yb4,k4,f4⟩,-⟩:=hL
       go_wp2
       rw[show (i:Int)+1=((i+1:Nat):Int) by omega]
       refine⟨?_,by simp[Aq];omega⟩
       unfold Hl
       exact⟨by exact Aa,i+1,Ag rfl,by omega⟩
      ·
       have hxy:rx<=ry:=by omega
       have hIx:I64 rx:=by unfold I64;omega
       have hIy:I64 ry:=by unfold I64;omega
       have E1:=Hd (show IntKind.u64.wrap s.eps=s.eps by simp only[Bu];omega)
       have E2:=Hd (show IntKind.u64.wrap (2*s.eps)=2*s.eps by simp only[Bu];omega)
       have E3:=Hd (show decide (2*s.eps<ry-rx)=false from decide_eq_false (by omega))
       go_upto_region 58 with(fail)
       clear k1 f1 k2 f2 k3 f3 k4 f4
       refine Ac w9 (Bc gr #[.int .i64 (((3:Nat):Int)),.int .i64 fr,.int .i64 wd,.int .i64 (N:Int)] 79<|Bc gs #[.string s.name,.int .i64 s.eps,.int .i64 s.floor,.int .i64 s.last,.int .i64 s.scale,.slice pS s.segs.length capS,.slice pP s.opn.length capP] 25<|Bc g18 #[.int .i64 0,.int .i64 0,.int .i64 rx,.int .i64 ry,.int .i64 0,.int .i64 0,.int .i64 0,.int .i64 0,.int .i64 0] 67<|Bc g23 #[.int .i64 (Dd Q),.int .i64 (Dh Q)] 101<|Bz) ?_
       clear b1 b2 b3 b4 hW
       rintro W511 hW z512 hL
       refine Bh 20 346 hW hL ?_
       iterate 4 refine dE (fun W' hC=>aI E1.out (aI E2.out E3.out)) ?_
       iterate 3 refine gE (fun W' hC=>aI E1.out (aI E2.out E3.out)) ?_
       apply Ce (p:=true) (hg:=rfl) (hd:=rfl) (hal:=rfl)
       ·intro v W' h
        simp at h
        simp
        exact h
       ·intro hp hx W' hC
        exact Ra rx ry (Ay Q) W' h1 h2
       ·intro hp hx a W' hC hE
        obtain⟨_,⟨-,-,k1,-⟩,⟨-,-,k2,-⟩,⟨-,-,k3,-⟩,⟨-,-,k4,-⟩,-⟩:=hC
        first
         |(simp[hx] at hE;simp[go_sem,Act.eval,iw,hE,k1,k2,k3,k4,E1.out,E2.out,E3.out];try rfl)
         |(clear hE;simp[go_sem,Act.eval,iw,k1,k2,k3,k4,E1.out,E2.out,E3.out];try rfl)
       refine gE (fun W' hC=>aI E1.out (aI E2.out E3.out)) ?_
       refine pO ?_
       refine dE (fun W' hC=>aI E1.out (aI E2.out E3.out)) ?_
       iterate 2 refine gE (fun W' hC=>aI E1.out (aI E2.out E3.out)) ?_
       apply Ce (p:=true) (hg:=rfl) (hd:=rfl) (hal:=rfl)
       ·intro v W' h
        simp at h
        simp
        exact h
       ·intro hp hx W' hC
        exact Mb rx ry W' hxy hIx hIy
       ·intro hp hx a W' hC hE
        obtain⟨_,⟨-,-,k1,-⟩,⟨-,-,k2,-⟩,⟨-,-,k3,-⟩,⟨-,-,k4,-⟩,-⟩:=hC
        first
         |(simp[hx] at hE;simp[go_sem,Act.eval,iw,hE,k1,k2,k3,k4,E1.out,E2.out,E3.out];try rfl)
         |(clear hE;simp[go_sem,Act.eval,iw,k1,k2,k3,k4,E1.out,E2.out,E3.out];try rfl)
       iterate 5 refine gE (fun W' hC=>aI E1.out (aI E2.out E3.out)) ?_
       refine pO ?_
       clear hW hL
       rintro W513 hW z514 hL
       simp only[ndR]
       intros
       repeat (rename Ap _ _ _ _=>hgd;clear hgd)
       simp only[ndS]
       refine wpList_nil ?_
       obtain⟨⟨b1,yb1,k1,f1⟩,⟨b2,yb2,k2,f2⟩,⟨b3,yb3,k3,f3⟩,⟨b4,yb4,k4,f4⟩,-⟩:=hL
       go_wp2
       rw[show (i:Int)+1=((i+1:Nat):Int) by omega]
       refine⟨?_,by simp[Aq];omega⟩
       unfold Hl
       exact⟨by exact Aa,i+1,Ag rfl,by omega⟩
      ·
       have hp0:0<=2*s.eps*m:=Int.mul_nonneg (by omega) (by omega)
       have hp1:2*s.eps*m<=2199023255552*m:=Int.mul_le_mul_of_nonneg_right (by omega) (by omega)
       obtain⟨hz9,hxy,hIx,hIy,hwd,hX2,hX3⟩:(rn=0/\rm0=0/\rm1=0/\rm2=0/\rm3=0/\rm4=0)/\rx<=ry/\I64 rx/\I64 ry/\ry-rx<=2*s.eps*m/\(rer=0->fb=true->rx<=X/\X<=ry)/\(fb=true->rer=0):=by
        rcases hw4 with⟨x,y,⟨e0,e1,e2,e3,e4,e5,e6,e7,e8⟩,h1,h2,h3,h4,h5⟩|⟨⟨e0,e1,e2,e3,e4,e5,e6,e7,e8⟩,hnf⟩
        ·subst e2
         subst e3
         refine⟨⟨e1,e4,e5,e6,e7,e8⟩,by omega,h4,h5,h3,fun _ hb=> ?_,fun _=>e0⟩
         have h9:=(hfit.out hb).1
         omega
        ·subst e2
         subst e3
         refine⟨⟨e1,e4,e5,e6,e7,e8⟩,Int.le_refl _,by unfold I64;omega,by unfold I64;omega,by omega,fun h=> ?_,fun hb=> ?_⟩
         ·rw[e0] at h;exact absurd h (by decide)
         ·rw[hnof.out hnf] at hb;cases hb
       obtain⟨rfl,rfl,rfl,rfl,rfl,rfl⟩:=hz9
       clear hw4
       obtain⟨G,hG⟩:∃G,(rer==0)=G:=⟨_,rfl⟩
       obtain⟨H,hH⟩:∃H,(rer !=0)=H:=⟨_,rfl⟩
       obtain⟨Bt,hBt⟩:∃b,b=true:=⟨true,rfl⟩
       have cHas:=Hd (fun(e:G=true/\fb=true) W=>(show Cb 48 #[.agg #[.int .i64 rx,.int .i64 ry],.int .i64 X] W (.bool Bt) from by
        have h9:=hX2 (by have:=e.1;rw[<-hG] at this;exact beq_iff_eq.1 this) e.2
        rw[hBt]
        exact Ra rx ry X W h9.1 h9.2))
       have hH9:fb=true->H=false:=fun e=>by rw[<-hH,hX3 e];rfl
       have E1:=Hd (show IntKind.u64.wrap s.eps=s.eps by simp only[Bu];omega)
       have E2:=Hd (show IntKind.u64.wrap (2*s.eps)=2*s.eps by simp only[Bu];omega)
       have E3:=Hd (show IntKind.u64.wrap m=m by simp only[Bu];omega)
       have E4:=Hd (show IntKind.u64.wrap (2*s.eps*m)=2*s.eps*m by obtain⟨z,hz⟩:∃z,2*s.eps*m=z:=⟨_,rfl⟩;rw[hz] at hp0 hp1⊢;simp only[Bu];omega)
       have E5:=Hd (show decide (2*s.eps*m<ry-rx)=false from decide_eq_false (by omega))
       obtain⟨Z,hZ⟩:∃Z,(G&&fb&& !Bt)=Z:=⟨_,rfl⟩
       have HB:=Hd (show (Z||fb&&H)=false by rw[<-hZ,hBt];cases hb:fb with|false=>simp|true=>rw[hH9 hb];simp)
       replace hZ:=Hd hZ
       replace hBt:=Hd hBt
       have EG:=Hd hG
       have EH:=Hd hH
       clear hG hH hH9 hX2 hX3 hp0 hp1 hwd
       go_upto_region 61 with(fail)
       clear k1 f1 k2 f2 k3 f3 k4 f4
       refine Ac w9 (Bc gr #[.int .i64 (((4:Nat):Int)),.int .i64 fr,.int .i64 wd,.int .i64 (N:Int)] 79<|Bc gs #[.string s.name,.int .i64 s.eps,.int .i64 s.floor,.int .i64 s.last,.int .i64 s.scale,.slice pS s.segs.length capS,.slice pP s.opn.length capP] 25<|Bc g18 #[.int .i64 rer,.int .i64 0,.int .i64 rx,.int .i64 ry,.int .i64 0,.int .i64 0,.int .i64 0,.int .i64 0,.int .i64 0] 67<|Bc g23 #[.int .i64 (Dd Q),.int .i64 (Dh Q)] 101<|Bz) ?_
       clear b1 b2 b3 b4 hW
       rintro W511 hW z512 hL
       refine Bh 39 346 hW hL ?_
       iterate 4 refine dE (fun W' hC=>aI hZ.out (aI EG.out (aI EH.out (aI E1.out (aI E2.out (aI E3.out (aI E4.out E5.out))))))) ?_
       refine gE (fun W' hC=>aI hZ.out (aI EG.out (aI EH.out (aI E1.out (aI E2.out (aI E3.out (aI E4.out E5.out))))))) ?_
       refine pA ?_
       refine dE (fun W' hC=>aI hZ.out (aI EG.out (aI EH.out (aI E1.out (aI E2.out (aI E3.out (aI E4.out E5.out))))))) ?_
       iterate 3 refine gE (fun W' hC=>aI hZ.out (aI EG.out (aI EH.out (aI E1.out (aI E2.out (aI E3.out (aI E4.out E5.out))))))) ?_
       apply Ce (p:=true) (hg:=rfl) (hd:=rfl) (hal:=rfl)
       ·intro v W' h
        simp at h
        simp
        exact h
       ·intro hp hx W' hC
        exact cHas.out (by simpa using hx) W'
       ·intro hp hx a W' hC hE
        obtain⟨_,⟨-,-,k1,-⟩,⟨-,-,k2,-⟩,⟨-,-,k3,-⟩,⟨-,-,k4,-⟩,-⟩:=hC
        first
         |(simp[hx] at hE;simp[go_sem,Act.eval,iw,hE,k1,k2,k3,k4,hZ.out,EG.out,EH.out,E1.out,E2.out,E3.out,E4.out,E5.out];try rfl)
         |(clear hE;simp[go_sem,Act.eval,iw,k1,k2,k3,k4,hZ.out,EG.out,EH.out,E1.out,E2.out,E3.out,E4.out,E5.out];try rfl)
       refine gE (fun W' hC=>aI hZ.out (aI EG.out (aI EH.out (aI E1.out (aI E2.out (aI E3.out (aI E4.out E5.out))))))) ?_
       refine pA ?_
       refine dE (fun W' hC=>aI hZ.out (aI EG.out (aI EH.out (aI E1.out (aI E2.out (aI E3.out (aI E4.out E5.out))))))) ?_
       iterate 4 refine gE (fun W' hC=>aI hZ.out (aI EG.out (aI EH.out (aI E1.out (aI E2.out (aI E3.out (aI E4.out E5.out))))))) ?_
       iterate 2 refine gF (fun W' hC=>aI hZ.out (aI EG.out (aI EH.out (aI E1.out (aI E2.out (aI E3.out (aI E4.out E5.out))))))) ?_
       apply Ce (p:=_) (hg:=rfl) (hd:=rfl) (hal:=rfl)
       ·intro v W' h
        first
         |exact h
         |(simp[Al,Ap] at h;simp;exact h)
       ·intro hp hx W' hC
        exact Mb rx ry W' hxy hIx hIy
       ·intro hp hx a W' hC hE
        obtain⟨_,⟨-,-,k1,-⟩,⟨-,-,k2,-⟩,⟨-,-,k3,-⟩,⟨-,-,k4,-⟩,-⟩:=hC
        try simp at hp
        try simp at hx
        first
         |(simp[hp,hx] at hE;simp[go_sem,Act.eval,iw,hE,k1,k2,k3,k4,hZ.out,EG.out,EH.out,E1.out,E2.out,E3.out,E4.out,E5.out];try rfl)
         |(clear hE;simp[go_sem,Act.eval,iw,k1,k2,k3,k4,hZ.out,EG.out,EH.out,E1.out,E2.out,E3.out,E4.out,E5.out];try rfl)
       iterate 8 refine gF (fun W' hC=>aI hZ.out (aI EG.out (aI EH.out (aI E1.out (aI E2.out (aI E3.out (aI E4.out E5.out))))))) ?_
       refine pgA ?_
       refine pO ?_
       refine dE (fun W' hC=>aI hZ.out (aI EG.out (aI EH.out (aI E1.out (aI E2.out (aI E3.out (aI E4.out E5.out))))))) ?_
       iterate 2 refine gE (fun W' hC=>aI hZ.out (aI EG.out (aI EH.out (aI E1.out (aI E2.out (aI E3.out (aI E4.out E5.out))))))) ?_
       iterate 3 refine gF (fun W' hC=>aI hZ.out (aI EG.out (aI EH.out (aI E1.out (aI E2.out (aI E3.out (aI E4.out E5.out))))))) ?_
       refine pgA ?_
       refine pO ?_
       clear hW hL
       rintro W513 hW z514 hL
       simp only[ndR]
       intros
       repeat (rename Ap _ _ _ _=>hgd;clear hgd)
       simp only[ndS]
       refine wpList_nil ?_
       obtain⟨⟨b1,yb1,k1,f1⟩,⟨b2,yb2,k2,f2⟩,⟨b3,yb3,k3,f3⟩,⟨b4,yb4,k4,f4⟩,-⟩:=hL
       rw[HB.out]
       go_wp2
       rw[show (i:Int)+1=((i+1:Nat):Int) by omega]
       refine⟨?_,by simp[Aq];omega⟩
       unfold Hl
       exact⟨by exact Aa,i+1,Ag rfl,by omega⟩
      ·
       obtain⟨C1,hC1⟩:∃b,decide (X<wrap64 (wrap64 (rm1*rm0)+rm2))=b:=⟨_,rfl⟩
       obtain⟨C2,hC2⟩:∃b,decide (wrap64 (wrap64 (rm3*rm0)+rm4)<X)=b:=⟨_,rfl⟩
       obtain⟨H0,hH0⟩:∃H,(rer !=0)=H:=⟨_,rfl⟩
       have hH9:H0=false:=by rw[<-hH0,her];rfl
       have HB:=Hd (show (H0||fb&&(C1||C2))=false by
        rw[hH9,Bool.false_or]
        cases hb:fb with
        |false=>rfl
        |true=>
         obtain⟨hX9,hl1,hl2⟩:=hfit.out hb
         have hp1:2*s.eps*rm0<=2199023255552*rm0:=Int.mul_le_mul_of_nonneg_right (by omega) (by omega)
         rw[<-hC1,<-hC2,hX9]
         obtain⟨P1,hP1⟩:∃z,rm1*rm0=z:=⟨_,rfl⟩
         obtain⟨P3,hP3⟩:∃z,rm3*rm0=z:=⟨_,rfl⟩
         obtain⟨PE,hPE⟩:∃z,2*s.eps*rm0=z:=⟨_,rfl⟩
         rw[hP1,hPE] at h3
         rw[hP1] at h1
         rw[hP3,hPE] at h4
         rw[hP3] at h2
         rw[hPE] at hp1
         rw[hP1,hP3,Ah,Ah,Ah,Ah,decide_eq_false (by omega),decide_eq_false (by omega)]
         rfl)
       have EH:=Hd hH0
       have D1:=Hd hC1
       have D2:=Hd hC2
       clear hC1 hC2 h1 h2 h3 h4 hH0 hH9 her
       go_upto_region 49 with(fail)
       clear k1 f1 k2 f2 k3 f3 k4 f4
       refine Ac w9 (Bc gr #[.int .i64 (((5:Nat):Int)),.int .i64 fr,.int .i64 wd,.int .i64 (N:Int)] 79<|Bc gs #[.string s.name,.int .i64 s.eps,.int .i64 s.floor,.int .i64 s.last,.int .i64 s.scale,.slice pS s.segs.length capS,.slice pP s.opn.length capP] 25<|Bc g18 #[.int .i64 rer,.int .i64 0,.int .i64 0,.int .i64 0,.int .i64 rm0,.int .i64 rm1,.int .i64 rm2,.int .i64 rm3,.int .i64 rm4] 67<|Bc g23 #[.int .i64 (Dd Q),.int .i64 (Dh Q)] 101<|Bc W509.heap.size #[.int .i64 rm0,.int .i64 rm1,.int .i64 rm2,.int .i64 rm3,.int .i64 rm4] 49<|Bz) ?_
       clear b1 b2 b3 b4 hW
       rintro W511 hW z512 hL
       obtain⟨⟨b1,yb1,k1,f1⟩,⟨b2,yb2,k2,f2⟩,⟨b3,yb3,k3,f3⟩,⟨b4,yb4,k4,f4⟩,⟨b5,yb5,k5,f5⟩,-⟩:=id hL
       clear k1 f1 k2 f2 k3 f3 k4 f4 k5 f5
       refine Ci 38 346 hW hL ?_
       iterate 4 refine dE (fun W' hC=>aI EH.out (aI D1.out D2.out)) ?_
       iterate 4 refine gE (fun W' hC=>aI EH.out (aI D1.out D2.out)) ?_
       refine pO ?_
       refine dE (fun W' hC=>aI EH.out (aI D1.out D2.out)) ?_
       iterate 2 refine gE (fun W' hC=>aI EH.out (aI D1.out D2.out)) ?_
       iterate 12 refine gF (fun W' hC=>aI EH.out (aI D1.out D2.out)) ?_
       iterate 11 refine gF (fun W' hC=>aI EH.out (aI D1.out D2.out)) ?_
       apply Mn (ho:=rfl) (hg:=rfl) (hd:=rfl)
       ·intro v W' h
        exact h
       ·intro hp hx v W' h
        simp[Al,Ap] at h hp hx
        simp[hp,hx] at h
        exact h
       ·intro hp hx v W' h hy
        simp[Al,Ap] at h hp hx
        simp[hp,hx,hy] at h
        exact h
       refine pgA ?_
       refine pO ?_
       clear hW hL b1 b2 b3 b4 b5
       rintro W513 hW z514 hL
       simp only[ndR]
       intros
       repeat (rename Ap _ _ _ _=>hgd;clear hgd)
       simp only[ndS]
       refine wpList_nil ?_
       obtain⟨⟨b1,yb1,k1,f1⟩,⟨b2,yb2,k2,f2⟩,⟨b3,yb3,k3,f3⟩,⟨b4,yb4,k4,f4⟩,⟨b5,yb5,k5,f5⟩,-⟩:=hL
       rw[HB.out]
       go_wp2
       rw[show (i:Int)+1=((i+1:Nat):Int) by omega]
       refine⟨?_,by simp[Aq];omega⟩
       unfold Hl
       exact⟨by exact Aa,i+1,Ag rfl,by omega⟩
   ·obtain rfl:N=i:=by omega
    replace b2:=b2.below hW0
    go_wp2
    go_ret
    exact⟨rfl,hBb.out.trans ((hB9.out.trans (hW0.mono hB9.out.size)).mono hBb.out.size)⟩
end Go.Proofs.YtidfcoooccblaaaGreat
