/- Parts of the proof that follows. No condition. -/
import Derived.Test.YtdeghcgakkhbmaaGreatSd12
set_option maxRecDepth 100000
set_option maxHeartbeats 8000000
set_option linter.unusedSimpArgs false
set_option linter.unusedVariables false
namespace Go.Proofs.YtdeghcgakkhbmaaGreat
open Go.RowKit


def pickK (k v y:Int):Int:=if k=2 then (if y<v then y else v) else (if v<y then y else v)
def rhRel (w:World) (r:At) (p:Option Addr) (cap:Nat) (er cn lo up mc lw lr hw hr:Int) (L:List (Int×Int)) (q:Option Addr) (c:Nat) (y0 k:Int) (a':Act) (W:World):Prop:=
 Below w.heap.size w W/\Blk W w.heap.size #[.string r.name,.int .i64 r.eps,.int .i64 r.floor,.int .i64 r.last,.int .i64 r.scale,.slice p r.pts.length cap] 35/\Blk W (w.heap.size+1) #[.int .i64 er,.int .i64 cn,.int .i64 lo,.int .i64 up,.int .i64 mc,.int .i64 lw,.int .i64 lr,.int .i64 hw,.int .i64 hr] 44/\Ar W q L/\∃(i:Nat) (v:Int),(∃u:Nat->Value,a'= {tmps:= #[u 0,.int .i64 k,u 2,u 3,u 4,.pointer (some ⟨w.heap.size,0,none⟩),u 6,u 7,u 8,.pointer (some ⟨w.heap.size+1,0,none⟩),.bool false,.slice q L.length c,.int .i64 v,u 13,u 14,u 15,u 16,u 17,u 18,u 19,u 20,u 21,u 22,u 23,u 24,u 25,u 26,u 27,u 28,u 29,u 30,u 31,u 32,u 33,u 34,u 35,u 36,u 37,u 38,u 39,u 40,u 41,u 42,u 43,u 44,u 45,u 46,u 47,u 48,u 49,u 50,u 51,u 52,u 53,u 54,u 55,u 56,u 57,.slice q L.length c,.int .i64 (L.length:Int),.int .i64 (i:Int),u 61,u 62,u 63,u 64,u 65,u 66,u 67,u 68,u 69,u 70,u 71,u 72,u 73,u 74,u 75,u 76,u 77,u 78,u 79,u 80,u 81,u 82,u 83,u 84,u 85,u 86,u 87,u 88,u 89,u 90,u 91,u 92,u 93,u 94,u 95,u 96,u 97,u 98,u 99],defers:= []})/\v=((L.take i).map (·.2)).foldl (pickK k) y0/\i<=L.length



end Go.Proofs.YtdeghcgakkhbmaaGreat
