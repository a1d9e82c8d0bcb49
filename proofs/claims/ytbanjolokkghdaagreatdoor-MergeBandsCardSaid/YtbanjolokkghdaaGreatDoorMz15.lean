/- Parts of the proof that follows: The references' numbers: Size, power. | The references' numbers: trim. | The references' numbers: plus. | The references' numbers: minus. | The references' numbers: plus, minus told; less. | The references' numbers: times. -/
import Derived.Test.YtbanjolokkghdaaGreatDoorMz14
set_option maxRecDepth 100000
set_option maxHeartbeats 8000000
set_option linter.unusedSimpArgs false
set_option linter.unusedVariables false
namespace Go.Proofs.YtbanjolokkghdaaGreatDoor
open Go.RowKit
theorem Tryz.infoI : (Tryz.prog.info? 3).map (fun i => (i.zero, i.size, i.bytes)) = some (some (.int .i64 0), 1, 8) := by kernel_rfl
theorem below_append {w0 W w1 : World} {B : Nat} {e : TypeId} {s k : Nat} {v : Value} {xs : List Value} {tmp : Obj} (hW : Below B w0 W) (hB : B <= W.heap.size) (hrow : W.ownsRow B e s v k xs) (hgr : (W.alloc tmp).grownBy w1 v.ownBlock) : Below B w0 w1 := by
 refine (hW.alloc hB tmp).grown hgr (by simp; omega) fun j ej => ?_
 rcases hrow.2 with ⟨rfl, _⟩ | ⟨g, cap, cur, rfl, hb, _, _⟩
 ·simp [Value.ownBlock] at ej
 ·obtain rfl : g = j := by simpa [Value.ownBlock] using ej
  exact hb
def sizeRel (u0 : Nat) (w : World) (a' : Act) (W : World) : Prop :=
 Below w.heap.size w W /\ ∃ (l : List Int) (u : Nat) (v : Value), (∃ x : Nat -> Value, a' = { tmps := #[.int .u64 (u : Int), x 1, x 2, v, x 4, x 5, x 6, x 7, x 8, x 9, x 10, x 11, x 12, x 13, x 14], defers := [] }) /\
  W.ownsRow w.heap.size 3 1 v l.length (l.map (Value.int .i64)) /\ Dig l /\ valD l + 2 ^ l.length * u = u0 /\ l.length <= 64 /\ u < 2 ^ (64 - l.length) /\ (u = 0 -> Canon l)
theorem c_Size (u0 : Nat) (w : World) (h0 : u0 < 18446744073709551616) :
  Calls Tryz.prog 118 #[.int .u64 (u0 : Int)] w fun e w' => ∃ v, e = .returned v /\ Bits w' v u0 /\ Below w.heap.size w w' := by
 obtain ⟨i0, hi, hz0, hz1, hz2⟩ := info_parts Tryz.infoI
 go_enter Tryz.func118, Tryz.ntmps118
 go_wp2
 refine wp_loop (sizeRel u0 w) (fun a' _ => (intAt (a'.tmps.getD 0 undef)).toNat) ?_ ?_
 ·unfold sizeRel
  exact ⟨Below.refl _ _, [], u0, _, frame_ex rfl, World.ownsRow_nil _ _ _ _, Dig.nil, by simp [valD], by simp, by simpa using h0, fun _ => Canon.nil⟩
 ·rintro a' W ⟨hW, l, u, v, ⟨x, rfl⟩, hown, hd, hv, hl, hu, hcn⟩
  have hz := hW.size
  replace hv := Lib.hid hv
  replace hu := Lib.hid hu
  replace hcn := Lib.hid hcn
  by_cases h : u = 0
  ·subst h
   have hC := Lib.hid (hcn.out rfl)
   have hn := Lib.hid (show valD l = u0 by have := hv.out; omega)
   clear hcn hv hu
   go_wp2
   go_ret
   exact ⟨v, rfl, hn.out ▸ bits_own hown rfl (by omega) hd hC.out, hW⟩
  ·have hpos : 0 < u := by omega
   have hp : 0 < (u : Int) := by omega
   have hlt : l.length < 64 := by
    have := hu.out
    rcases Nat.lt_or_ge l.length 64 with h1 | h1
    ·exact h1
    ·have : 64 - l.length = 0 := by omega
     rw [this] at hu
     have := hu.out
     simp at this
     omega
   have hu64 : u < 18446744073709551616 := by have := hu.out; have := Nat.pow_le_pow_right (n := 2) (by omega) (show 64 - l.length <= 64 by omega); omega
   go_wp2_with (at_builtin; refine wpList_append_own _ rfl (.tmp 6) (.tmp 10) 132 rfl w.heap.size 3 i0 (.int .i64 0) 1 8 (by kernel_rfl) hi hz0 hz1 hz2 rfl (by decide) _ _ _ rfl (hown.alloc _) ⟨W.heap.size, 0, none⟩ 1 1 [.int .i64 (u % 2 : Int)] rfl rfl (cell_one_new _ _ _) (by simp [Value.oneCell']) (by simp [maxLen]; omega) (by omega) (by simp; omega) ?_)
   intro v' w1 hown' hgr _
   have hB := Lib.hid (below_append hW hz hown hgr)
   replace hown' := Lib.hid hown'
   clear hgr hown
   go_wp2
   rw [show (u : Int) / 2 = ((u / 2 : Nat) : Int) by omega]
   refine ⟨?_, by simp [intAt]; omega⟩
   unfold sizeRel
   have e2 : ((u : Int) % 2).toNat = u % 2 := by omega
   refine ⟨hB.out, l ++ [(u : Int) % 2], u / 2, v', frame_ex rfl, by simpa using hown'.out, hd.snoc (by omega), ?_, by simp; omega, ?_, fun h2 => ?_⟩
   ·have := hv.out
    rw [valD_snoc, e2, List.length_append, List.length_singleton, Nat.pow_succ, Nat.mul_assoc, Nat.add_assoc, <- Nat.mul_add, show u % 2 + 2 * (u / 2) = u by omega]
    exact this
   ·have := hu.out
    rw [List.length_append, List.length_singleton]
    have e : 2 ^ (64 - l.length) = 2 * 2 ^ (64 - (l.length + 1)) := by rw [show 64 - l.length = (64 - (l.length + 1)) + 1 by omega, Nat.pow_succ]; omega
    omega
   ·have : u = 1 := by omega
    subst this
    exact canon_snoc_one l
theorem valD_noughts : ∀ n : Nat, valD (List.replicate n 0) = 0
 | 0 => rfl
 | n + 1 => by simp [List.replicate_succ, valD, valD_noughts n]
theorem dig_noughts (n : Nat) : Dig (List.replicate n 0) := fun d h => .inl (List.eq_of_mem_replicate h)
def powRel (n : Nat) (w : World) (a' : Act) (W : World) : Prop :=
 Below w.heap.size w W /\ ∃ (k : Nat) (v : Value), (∃ x : Nat -> Value, a' = { tmps := #[.int .i64 (n : Int), x 1, x 2, v, .int .i64 (k : Int), x 5, x 6, x 7, x 8, x 9, x 10, x 11, x 12, x 13, x 14, x 15], defers := [] }) /\
  W.ownsRow w.heap.size 3 1 v k ((List.replicate k (0 : Int)).map (Value.int .i64)) /\ k <= n
theorem c_power (n : Nat) (w : World) (hn : n <= 900) :
  Calls Tryz.prog 122 #[.int .i64 (n : Int)] w fun e w' => ∃ v, e = .returned v /\ Bits w' v (2 ^ n) /\ Below w.heap.size w w' := by
 obtain ⟨i0, hi, hz0, hz1, hz2⟩ := info_parts Tryz.infoI
 go_enter Tryz.func122, Tryz.ntmps122
 go_wp2
 refine wp_loop (powRel n w) (fun a' _ => n - (intAt (a'.tmps.getD 4 undef)).toNat) ?_ ?_
 ·unfold powRel
  exact ⟨Below.refl _ _, 0, _, frame_ex rfl, World.ownsRow_nil _ _ _ _, Nat.zero_le _⟩
 ·rintro a' W ⟨hW, k, v, ⟨x, rfl⟩, hown, hk⟩
  have hz := hW.size
  rcases Nat.lt_or_ge k n with hlt | hge
  ·go_wp2_with (at_builtin; refine wpList_append_own _ rfl (.tmp 10) (.tmp 11) 132 rfl w.heap.size 3 i0 (.int .i64 0) 1 8 (by kernel_rfl) hi hz0 hz1 hz2 rfl (by decide) _ _ _ rfl (hown.alloc _) ⟨W.heap.size, 0, none⟩ 1 1 [.int .i64 0] rfl rfl (cell_one_new _ _ _) (by simp [Value.oneCell']) (by simp [maxLen]; omega) (by omega) (by simp; omega) ?_)
   intro v' w1 hown' hgr _
   have hB := Lib.hid (below_append hW hz hown hgr)
   replace hown' := Lib.hid hown'
   clear hgr hown
   go_wp2
   rw [show (k : Int) + 1 = ((k + 1 : Nat) : Int) by omega]
   refine ⟨?_, by simp [intAt]; omega⟩
   unfold powRel
   exact ⟨hB.out, k + 1, v', frame_ex rfl, by rw [List.replicate_succ', List.map_append, List.map_replicate]; exact hown'.out, hlt⟩
  ·obtain rfl : k = n := by omega
   go_wp2_with (at_builtin; refine wpList_append_own _ rfl (.tmp 13) (.tmp 14) 132 rfl w.heap.size 3 i0 (.int .i64 0) 1 8 (by kernel_rfl) hi hz0 hz1 hz2 rfl (by decide) _ _ _ rfl (hown.alloc _) ⟨W.heap.size, 0, none⟩ 1 1 [.int .i64 1] rfl rfl (cell_one_new _ _ _) (by simp [Value.oneCell']) (by simp [maxLen]; omega) (by omega) (by simp; omega) ?_)
   intro v' w1 hown' hgr _
   have hB := Lib.hid (below_append hW hz hown hgr)
   have hv : valD (List.replicate k (0 : Int) ++ [1]) = 2 ^ k := by rw [valD_snoc, valD_noughts]; simp
   have hb : Bits w1 v' (valD (List.replicate k (0 : Int) ++ [1])) := bits_own (n := k + 1) (by rw [List.map_append, List.map_replicate]; exact hown') (by simp) (by simp; omega) ((dig_noughts k).snoc (.inr rfl)) (canon_snoc_one _)
   rw [hv] at hb
   replace hb := Lib.hid hb
   clear hgr hown hown' hv
   go_wp2
   go_ret
   exact ⟨v', rfl, hb.out, hB.out⟩
theorem DigsIn.taken {w : World} {p : Option Addr} {l : List Int} (h : DigsIn w p l) (k : Nat) : DigsIn w p (l.take k) := h.take k
def trimRel (w : World) (b o cap : Nat) (l : List Int) (a' : Act) (W : World) : Prop :=
 Below w.heap.size w W /\ ∃ k : Nat, (∃ u : Nat -> Value, a' = { tmps := #[.slice (some ⟨b, o, none⟩) l.length cap, u 1, u 2, .int .i64 (k : Int), u 4, u 5, u 6, u 7, u 8, u 9, u 10, u 11, u 12, u 13, u 14, u 15, u 16, u 17, u 18, u 19, u 20], defers := [] }) /\ k <= l.length /\ valD (l.take k) = valD l
theorem trim_some (b o cap : Nat) (l : List Int) (w : World) (h : DigsIn w (some ⟨b, o, none⟩) l) (hc : l.length <= cap) (hcm : cap <= 9223372036854775807) (hl : l.length <= 1000) (hd : Dig l) :
  Calls Tryz.prog 173 #[.slice (some ⟨b, o, none⟩) l.length cap] w fun e w' => ∃ v, e = .returned v /\ Bits w' v (valD l) /\ Below w.heap.size w w' := by
 go_enter Tryz.func173, Tryz.ntmps173
 go_wp2
 refine wp_loop (trimRel w b o cap l) (fun a' _ => (intAt (a'.tmps.getD 3 undef)).toNat) ?_ ?_
 ·unfold trimRel
  exact ⟨Below.refl _ _, l.length, frame_ex rfl, Nat.le_refl _, by rw [List.take_length]⟩
 ·rintro a' W ⟨hW, k, ⟨u, rfl⟩, hk, hv⟩
  replace hv := Lib.hid hv
  rcases Nat.eq_zero_or_pos k with rfl | hpos
  ·go_wp2
   go_ret
   refine ⟨_, rfl, ⟨some ⟨b, o, none⟩, l.take 0, cap, by simp, by simp, by simp, (fun e => by cases e), (h.below hW).taken 0, by simpa using Dig.nil, by simpa using Canon.nil, hv.out⟩, hW⟩
  ·obtain ⟨j, rfl⟩ : ∃ j, k = j + 1 := ⟨k - 1, by omega⟩
   obtain ⟨d, hdj⟩ : ∃ d, l[j]? = some d := ⟨l[j], List.getElem?_eq_getElem (by omega)⟩
   obtain ⟨b', o', e, q0⟩ := (h.below hW).at' j d hdj
   cases e
   have e1 : ((j + 1 : Nat) : Int) - 1 = (j : Int) := by omega
   have ht := Lib.hid (valD_take hdj)
   have hdd := hd.at hdj
   have hcan := Lib.hid (show d = 1 -> Canon (l.take (j + 1)) from fun e => by rw [List.take_add_one, hdj, e]; exact canon_snoc_one _)
   clear hdj
   replace e1 := Lib.hid e1
   rcases hdd with rfl | rfl
   ·go_wp2
    refine ⟨?_, by simp [intAt]⟩
    unfold trimRel
    exact ⟨hW, j, frame_ex rfl, by omega, by have := ht.out; have := hv.out; simp at *; omega⟩
   ·go_wp2
    go_ret
    exact ⟨_, rfl, ⟨some ⟨b, o, none⟩, l.take (j + 1), cap, by rw [List.length_take, Nat.min_eq_left hk]; rfl, by rw [List.length_take]; omega, by rw [List.length_take]; omega, (fun e => by cases e), (h.below hW).taken _, hd.take _, hcan.out trivial, hv.out⟩, hW⟩
theorem trim_nil (p : Option Addr) (cap : Nat) (w : World) (hd : DigsIn w p []) (hn : p = none -> cap = 0) (hcm : cap <= 9223372036854775807) :
  Calls Tryz.prog 173 #[.slice p 0 cap] w fun e w' => ∃ v, e = .returned v /\ Bits w' v 0 /\ Below w.heap.size w w' := by
 cases p with
 | none =>
  obtain rfl := hn rfl
  go_enter Tryz.func173, Tryz.ntmps173
  go_wp2
  refine wp_loop (fun a' W => W = w /\ ∃ u : Nat -> Value, a' = { tmps := #[.slice none 0 0, u 1, u 2, .int .i64 0, u 4, u 5, u 6, u 7, u 8, u 9, u 10, u 11, u 12, u 13, u 14, u 15, u 16, u 17, u 18, u 19, u 20], defers := [] }) (fun _ _ => 0) ⟨rfl, frame_ex rfl⟩ ?_
  rintro a' W ⟨rfl, u, rfl⟩
  go_wp2
  go_ret
  exact ⟨_, rfl, Bits.zero _, Below.refl _ _⟩
 | some a =>
  go_enter Tryz.func173, Tryz.ntmps173
  go_wp2
  refine wp_loop (fun a' W => W = w /\ ∃ u : Nat -> Value, a' = { tmps := #[.slice (some a) 0 cap, u 1, u 2, .int .i64 0, u 4, u 5, u 6, u 7, u 8, u 9, u 10, u 11, u 12, u 13, u 14, u 15, u 16, u 17, u 18, u 19, u 20], defers := [] }) (fun _ _ => 0) ⟨rfl, frame_ex rfl⟩ ?_
  rintro a' W ⟨rfl, u, rfl⟩
  go_wp2
  go_ret
  exact ⟨_, rfl, ⟨_, [], cap, rfl, by simp, by simp, (fun e => by cases e), hd, Dig.nil, Canon.nil, rfl⟩, Below.refl _ _⟩
theorem c_trim (p : Option Addr) (cap : Nat) (l : List Int) (w : World) (h : DigsIn w p l) (hn : p = none -> l = [] /\ cap = 0) (hc : l.length <= cap) (hcm : cap <= 9223372036854775807) (hl : l.length <= 1000) (hd : Dig l) :
  Calls Tryz.prog 173 #[.slice p l.length cap] w fun e w' => ∃ v, e = .returned v /\ Bits w' v (valD l) /\ Below w.heap.size w w' := by
 cases l with
 | nil => exact trim_nil p cap w h (fun e => (hn e).2) hcm
 | cons d l =>
  obtain ⟨b, o, rfl, _⟩ := h.at' 0 d rfl
  exact trim_some b o cap (d :: l) w h hc hcm hl hd
def plusRel (w : World) (p q : Option Addr) (a b : List Int) (ca cb : Nat) (a' : Act) (W : World) : Prop :=
 Below w.heap.size w W /\ ∃ (l : List Int) (c : Int) (v : Value), (∃ u : Nat -> Value, a' = { tmps := #[.slice p a.length ca, .slice q b.length cb, u 2, u 3, u 4, v, .int .i64 c, .int .i64 (l.length : Int), u 8, u 9, u 10, u 11, u 12, u 13, u 14, u 15, u 16, u 17, u 18, u 19, u 20, u 21, u 22, u 23, u 24, u 25, u 26, u 27, u 28, u 29, u 30, u 31, u 32, u 33, u 34, u 35, u 36, u 37, u 38, u 39, u 40, u 41, u 42, u 43, u 44, u 45, u 46, u 47, u 48, u 49, u 50, u 51, u 52, u 53], defers := [] }) /\
  W.ownsRow w.heap.size 3 1 v l.length (l.map (Value.int .i64)) /\ Dig l /\ (0 <= c /\ c <= 1) /\ valD l + 2 ^ l.length * c.toNat = valD (a.take l.length) + valD (b.take l.length) /\
  ((l.length : Int) + c <= a.length + 1 ∨ (l.length : Int) + c <= b.length + 1) /\ (l.length = 0 ∨ l.length <= a.length ∨ l.length <= b.length ∨ 2 ^ (l.length - 1) <= valD l)
theorem plus_w (p q : Option Addr) (a b : List Int) (ca cb : Nat) (w : World) (ha : DigsIn w p a) (hb : DigsIn w q b) (hda : Dig a) (hdb : Dig b) (hca : Canon a) (hcb : Canon b) (hla : a.length <= 950) (hlb : b.length <= 950) :
  Calls Tryz.prog 117 #[.slice p a.length ca, .slice q b.length cb] w fun e w' => ∃ v, e = .returned v /\ Bits w' v (valD a + valD b) /\ Below w.heap.size w w' := by
 obtain ⟨i0, hi, hz0, hz1, hz2⟩ := info_parts Tryz.infoI
 go_enter Tryz.func117, Tryz.ntmps117
 go_wp2
 refine wp_loop (plusRel w p q a b ca cb) (fun a' _ => 2000 - (intAt (a'.tmps.getD 7 undef)).toNat) ?_ ?_
 ·unfold plusRel
  exact ⟨Below.refl _ _, [], 0, _, frame_ex rfl, World.ownsRow_nil _ _ _ _, Dig.nil, by omega, by simp [valD], by simp; omega, .inl rfl⟩
 ·rintro a' W ⟨hW, l, c, v, ⟨u, rfl⟩, hown, hd, hc, hv, hM, hcn⟩
  have hz := hW.size
  replace hv := Lib.hid hv
  replace hcn := Lib.hid hcn
  have hl9 : l.length <= 951 := by omega
  by_cases hia : l.length < a.length
  ·by_cases hib : l.length < b.length
   ·
    obtain ⟨x, hx⟩ : ∃ x, a[l.length]? = some x := ⟨a[l.length], List.getElem?_eq_getElem hia⟩
    obtain ⟨ga, oa, rfl, qa⟩ := (ha.below hW).at' _ x hx
    have bx : 0 <= x /\ x <= 1 := by have := hda.at hx; omega
    have ta := valD_take hx
    obtain ⟨y, hy⟩ : ∃ y, b[l.length]? = some y := ⟨b[l.length], List.getElem?_eq_getElem hib⟩
    obtain ⟨gb, ob, rfl, qb⟩ := (hb.below hW).at' _ y hy
    have by' : 0 <= y /\ y <= 1 := by have := hdb.at hy; omega
    have tb := valD_take hy
    replace ta := Lib.hid ta
    replace tb := Lib.hid tb
    clear hx
    clear hy
    go_wp2_with (at_builtin; refine wpList_append_own _ rfl (.tmp 46) (.tmp 49) 132 rfl w.heap.size 3 i0 (.int .i64 0) 1 8 (by kernel_rfl) hi hz0 hz1 hz2 rfl (by decide) _ _ _ rfl (hown.alloc _) ⟨W.heap.size, 0, none⟩ 1 1 [.int .i64 ((c + x + y) % 2)] rfl rfl (cell_one_new _ _ _) (by simp [Value.oneCell']) (by simp [maxLen]; omega) (by omega) (by simp; omega) ?_)
    intro v' w1 hown' hgr _
    have hB := Lib.hid (below_append hW hz hown hgr)
    replace hown' := Lib.hid hown'
    clear hgr hown
    go_wp2
    refine ⟨?_, by simp [intAt]; omega⟩
    have ee : ((l.length : Int) + 1) = (((l ++ [(c + x + y) % 2]).length : Nat) : Int) := by simp
    rw [ee]
    unfold plusRel
    refine ⟨hB.out, l ++ [(c + x + y) % 2], (c + x + y) / 2, v', frame_ex rfl, by simpa using hown'.out, hd.snoc (by omega), by omega, ?_, by simp; omega, ?_⟩
    ·have := hv.out
     have e1 : ((c + x + y) % 2).toNat + 2 * ((c + x + y) / 2).toNat = c.toNat + x.toNat + y.toNat := by omega
     rw [valD_snoc, List.length_append, List.length_singleton, Nat.pow_succ, Nat.mul_assoc, Nat.add_assoc, <- Nat.mul_add, e1, ta.out, tb.out]
     try simp only [Nat.mul_add]
     omega
    ·exact .inr (.inl (by simp; omega))
   ·
    obtain ⟨x, hx⟩ : ∃ x, a[l.length]? = some x := ⟨a[l.length], List.getElem?_eq_getElem hia⟩
    obtain ⟨ga, oa, rfl, qa⟩ := (ha.below hW).at' _ x hx
    have bx : 0 <= x /\ x <= 1 := by have := hda.at hx; omega
    have ta := valD_take hx
    have tb : valD (b.take (l.length + 1)) = valD (b.take l.length) := by rw [valD_all b (by omega), valD_all b (by omega)]
    replace ta := Lib.hid ta
    replace tb := Lib.hid tb
    clear hx
    go_wp2_with (at_builtin; refine wpList_append_own _ rfl (.tmp 46) (.tmp 49) 132 rfl w.heap.size 3 i0 (.int .i64 0) 1 8 (by kernel_rfl) hi hz0 hz1 hz2 rfl (by decide) _ _ _ rfl (hown.alloc _) ⟨W.heap.size, 0, none⟩ 1 1 [.int .i64 ((c + x) % 2)] rfl rfl (cell_one_new _ _ _) (by simp [Value.oneCell']) (by simp [maxLen]; omega) (by omega) (by simp; omega) ?_)
    intro v' w1 hown' hgr _
    have hB := Lib.hid (below_append hW hz hown hgr)
    replace hown' := Lib.hid hown'
    clear hgr hown
    go_wp2
    refine ⟨?_, by simp [intAt]; omega⟩
    have ee : ((l.length : Int) + 1) = (((l ++ [(c + x) % 2]).length : Nat) : Int) := by simp
    rw [ee]
    unfold plusRel
    refine ⟨hB.out, l ++ [(c + x) % 2], (c + x) / 2, v', frame_ex rfl, by simpa using hown'.out, hd.snoc (by omega), by omega, ?_, by simp; omega, ?_⟩
    ·have := hv.out
     have e1 : ((c + x) % 2).toNat + 2 * ((c + x) / 2).toNat = c.toNat + x.toNat := by omega
     rw [valD_snoc, List.length_append, List.length_singleton, Nat.pow_succ, Nat.mul_assoc, Nat.add_assoc, <- Nat.mul_add, e1, ta.out, tb.out]
     try simp only [Nat.mul_add]
     omega
    ·exact .inr (.inl (by simp; omega))
  ·by_cases hib : l.length < b.length
   ·
    have ta : valD (a.take (l.length + 1)) = valD (a.take l.length) := by rw [valD_all a (by omega), valD_all a (by omega)]
    obtain ⟨y, hy⟩ : ∃ y, b[l.length]? = some y := ⟨b[l.length], List.getElem?_eq_getElem hib⟩
    obtain ⟨gb, ob, rfl, qb⟩ := (hb.below hW).at' _ y hy
    have by' : 0 <= y /\ y <= 1 := by have := hdb.at hy; omega
    have tb := valD_take hy
    replace ta := Lib.hid ta
    replace tb := Lib.hid tb
    clear hy
    go_wp2_with (at_builtin; refine wpList_append_own _ rfl (.tmp 46) (.tmp 49) 132 rfl w.heap.size 3 i0 (.int .i64 0) 1 8 (by kernel_rfl) hi hz0 hz1 hz2 rfl (by decide) _ _ _ rfl (hown.alloc _) ⟨W.heap.size, 0, none⟩ 1 1 [.int .i64 ((c + y) % 2)] rfl rfl (cell_one_new _ _ _) (by simp [Value.oneCell']) (by simp [maxLen]; omega) (by omega) (by simp; omega) ?_)
    intro v' w1 hown' hgr _
    have hB := Lib.hid (below_append hW hz hown hgr)
    replace hown' := Lib.hid hown'
    clear hgr hown
    go_wp2
    refine ⟨?_, by simp [intAt]; omega⟩
    have ee : ((l.length : Int) + 1) = (((l ++ [(c + y) % 2]).length : Nat) : Int) := by simp
    rw [ee]
    unfold plusRel
    refine ⟨hB.out, l ++ [(c + y) % 2], (c + y) / 2, v', frame_ex rfl, by simpa using hown'.out, hd.snoc (by omega), by omega, ?_, by simp; omega, ?_⟩
    ·have := hv.out
     have e1 : ((c + y) % 2).toNat + 2 * ((c + y) / 2).toNat = c.toNat + y.toNat := by omega
     rw [valD_snoc, List.length_append, List.length_singleton, Nat.pow_succ, Nat.mul_assoc, Nat.add_assoc, <- Nat.mul_add, e1, ta.out, tb.out]
     try simp only [Nat.mul_add]
     omega
    ·exact .inr (.inr (.inl (by simp; omega)))
   ·by_cases hc0 : 0 < c
    ·
     have ta : valD (a.take (l.length + 1)) = valD (a.take l.length) := by rw [valD_all a (by omega), valD_all a (by omega)]
     have tb : valD (b.take (l.length + 1)) = valD (b.take l.length) := by rw [valD_all b (by omega), valD_all b (by omega)]
     replace ta := Lib.hid ta
     replace tb := Lib.hid tb
     go_wp2_with (at_builtin; refine wpList_append_own _ rfl (.tmp 46) (.tmp 49) 132 rfl w.heap.size 3 i0 (.int .i64 0) 1 8 (by kernel_rfl) hi hz0 hz1 hz2 rfl (by decide) _ _ _ rfl (hown.alloc _) ⟨W.heap.size, 0, none⟩ 1 1 [.int .i64 ((c) % 2)] rfl rfl (cell_one_new _ _ _) (by simp [Value.oneCell']) (by simp [maxLen]; omega) (by omega) (by simp; omega) ?_)
     intro v' w1 hown' hgr _
     have hB := Lib.hid (below_append hW hz hown hgr)
     replace hown' := Lib.hid hown'
     clear hgr hown
     go_wp2
     refine ⟨?_, by simp [intAt]; omega⟩
     have ee : ((l.length : Int) + 1) = (((l ++ [(c) % 2]).length : Nat) : Int) := by simp
     rw [ee]
     unfold plusRel
     refine ⟨hB.out, l ++ [(c) % 2], (c) / 2, v', frame_ex rfl, by simpa using hown'.out, hd.snoc (by omega), by omega, ?_, by simp; omega, ?_⟩
     ·have := hv.out
      have e1 : ((c) % 2).toNat + 2 * ((c) / 2).toNat = c.toNat := by omega
      rw [valD_snoc, List.length_append, List.length_singleton, Nat.pow_succ, Nat.mul_assoc, Nat.add_assoc, <- Nat.mul_add, e1, ta.out, tb.out]
      try simp only [Nat.mul_add]
      omega
     ·have hc1 : c = 1 := by omega
      subst hc1
      exact .inr (.inr (.inr (by rw [valD_snoc]; simp)))
    ·have hc1 : c = 0 := by omega
     subst hc1
     have hsum := Lib.hid (show valD l = valD a + valD b by
      have := hv.out
      rw [valD_all a (by omega), valD_all b (by omega)] at this
      simpa using this)
     have hcan : Canon l := by
      by_cases h0 : l = []
      ·exact .inl h0
      ·refine .inr ?_
       have hne : l.length ≠ 0 := fun e => h0 (List.length_eq_zero_iff.1 e)
       have hs := hsum.out
       rcases hcn.out with h1 | h1 | h1 | h1
       ·omega
       ·have e : l.length = a.length := by omega
        have := canon_pos hca (by rintro rfl; simp at e; exact h0 e)
        rw [<- e] at this
        omega
       ·have e : l.length = b.length := by omega
        have := canon_pos hcb (by rintro rfl; simp at e; exact h0 e)
        rw [<- e] at this
        omega
       ·exact h1
     have hbits := Lib.hid (bits_own hown rfl (by omega) hd hcan)
     clear hcn hv hcan hown
     go_wp2
     go_ret
     exact ⟨v, rfl, hsum.out ▸ hbits.out, hW⟩
def mnsRel (w : World) (p q : Option Addr) (a b : List Int) (ca cb : Nat) (a' : Act) (W : World) : Prop :=
 Below w.heap.size w W /\ ∃ (l : List Int) (c : Int) (v : Value), (∃ u : Nat -> Value, a' = { tmps := #[.slice p a.length ca, .slice q b.length cb, u 2, u 3, u 4, v, .int .i64 c, .int .i64 (l.length : Int), u 8, u 9, u 10, u 11, u 12, u 13, u 14, u 15, u 16, u 17, u 18, u 19, u 20, u 21, u 22, u 23, u 24, u 25, u 26, u 27, u 28, u 29, u 30, u 31, u 32, u 33, u 34, u 35, u 36, u 37, u 38, u 39, u 40], defers := [] }) /\
  W.ownsRow w.heap.size 3 1 v l.length (l.map (Value.int .i64)) /\ Dig l /\ (0 <= c /\ c <= 1) /\ valD l + valD (b.take l.length) = valD (a.take l.length) + 2 ^ l.length * c.toNat /\ l.length <= a.length
theorem minus_w (p q : Option Addr) (a b : List Int) (ca cb : Nat) (w : World) (ha : DigsIn w p a) (hb : DigsIn w q b) (hda : Dig a) (hdb : Dig b) (hla : a.length <= 950) (hlb : b.length <= a.length) (hge : valD b <= valD a) :
  Calls Tryz.prog 119 #[.slice p a.length ca, .slice q b.length cb] w fun e w' => ∃ v, e = .returned v /\ Bits w' v (valD a - valD b) /\ Below w.heap.size w w' := by
 obtain ⟨i0, hi, hz0, hz1, hz2⟩ := info_parts Tryz.infoI
 go_enter Tryz.func119, Tryz.ntmps119
 go_wp2
 refine wp_loop (mnsRel w p q a b ca cb) (fun a' _ => 2000 - (intAt (a'.tmps.getD 7 undef)).toNat) ?_ ?_
 ·unfold mnsRel
  exact ⟨Below.refl _ _, [], 0, _, frame_ex rfl, World.ownsRow_nil _ _ _ _, Dig.nil, by omega, by simp [valD], by simp⟩
 ·rintro a' W ⟨hW, l, c, v, ⟨u, rfl⟩, hown, hd, hc, hv, hM⟩
  have hz := hW.size
  replace hv := Lib.hid hv
  have hl9 : l.length <= 950 := by omega
  by_cases hia : l.length < a.length
  ·obtain ⟨x, hx⟩ : ∃ x, a[l.length]? = some x := ⟨a[l.length], List.getElem?_eq_getElem hia⟩
   obtain ⟨ga, oa, rfl, qa⟩ := (ha.below hW).at' _ x hx
   have bx : 0 <= x /\ x <= 1 := by have := hda.at hx; omega
   have ta := Lib.hid (valD_take hx)
   clear hx
   by_cases hib : l.length < b.length
   ·obtain ⟨y, hy⟩ : ∃ y, b[l.length]? = some y := ⟨b[l.length], List.getElem?_eq_getElem hib⟩
    obtain ⟨gb, ob, rfl, qb⟩ := (hb.below hW).at' _ y hy
    have bq : 0 <= y /\ y <= 1 := by have := hdb.at hy; omega
    have tb := Lib.hid (valD_take hy)
    clear hy
    by_cases hlow : x - c - y < 0
    ·
     go_wp2_with (at_builtin; refine wpList_append_own _ rfl (.tmp 35) (.tmp 37) 132 rfl w.heap.size 3 i0 (.int .i64 0) 1 8 (by kernel_rfl) hi hz0 hz1 hz2 rfl (by decide) _ _ _ rfl (hown.alloc _) ⟨W.heap.size, 0, none⟩ 1 1 [.int .i64 (x - c - y + 2)] rfl rfl (cell_one_new _ _ _) (by simp [Value.oneCell']) (by simp [maxLen]; omega) (by omega) (by simp; omega) ?_)
     intro v' w1 hown' hgr _
     have hB := Lib.hid (below_append hW hz hown hgr)
     replace hown' := Lib.hid hown'
     clear hgr hown
     go_wp2
     refine ⟨?_, by simp [intAt]; omega⟩
     have ee : ((l.length : Int) + 1) = (((l ++ [x - c - y + 2]).length : Nat) : Int) := by simp
     rw [ee]
     unfold mnsRel
     refine ⟨hB.out, l ++ [x - c - y + 2], 1, v', frame_ex rfl, by simpa using hown'.out, hd.snoc (by omega), by omega, ?_, by simp; omega⟩
     have := hv.out
     have e1 : (x - c - y + 2).toNat + c.toNat + y.toNat = x.toNat + 2 * (1 : Int).toNat := by omega
     obtain ⟨Pw, hPw⟩ : ∃ Pw, Pw = 2 ^ l.length := ⟨_, rfl⟩
     rw [valD_snoc, List.length_append, List.length_singleton, Nat.pow_succ, ta.out, tb.out]
     rw [<- hPw] at this ⊢
     have e2 : Pw * (x - c - y + 2).toNat + Pw * c.toNat + Pw * y.toNat = Pw * x.toNat + Pw * (2 * (1 : Int).toNat) := by rw [<- Nat.mul_add, <- Nat.mul_add, e1, Nat.mul_add]
     have e3 : Pw * 2 * (1 : Int).toNat = Pw * (2 * (1 : Int).toNat) := Nat.mul_assoc _ _ _
     omega
    ·
     go_wp2_with (at_builtin; refine wpList_append_own _ rfl (.tmp 35) (.tmp 37) 132 rfl w.heap.size 3 i0 (.int .i64 0) 1 8 (by kernel_rfl) hi hz0 hz1 hz2 rfl (by decide) _ _ _ rfl (hown.alloc _) ⟨W.heap.size, 0, none⟩ 1 1 [.int .i64 (x - c - y)] rfl rfl (cell_one_new _ _ _) (by simp [Value.oneCell']) (by simp [maxLen]; omega) (by omega) (by simp; omega) ?_)
     intro v' w1 hown' hgr _
     have hB := Lib.hid (below_append hW hz hown hgr)
     replace hown' := Lib.hid hown'
     clear hgr hown
     go_wp2
     refine ⟨?_, by simp [intAt]; omega⟩
     have ee : ((l.length : Int) + 1) = (((l ++ [x - c - y]).length : Nat) : Int) := by simp
     rw [ee]
     unfold mnsRel
     refine ⟨hB.out, l ++ [x - c - y], 0, v', frame_ex rfl, by simpa using hown'.out, hd.snoc (by omega), by omega, ?_, by simp; omega⟩
     have := hv.out
     have e1 : (x - c - y).toNat + c.toNat + y.toNat = x.toNat + 2 * (0 : Int).toNat := by omega
     obtain ⟨Pw, hPw⟩ : ∃ Pw, Pw = 2 ^ l.length := ⟨_, rfl⟩
     rw [valD_snoc, List.length_append, List.length_singleton, Nat.pow_succ, ta.out, tb.out]
     rw [<- hPw] at this ⊢
     have e2 : Pw * (x - c - y).toNat + Pw * c.toNat + Pw * y.toNat = Pw * x.toNat + Pw * (2 * (0 : Int).toNat) := by rw [<- Nat.mul_add, <- Nat.mul_add, e1, Nat.mul_add]
     have e3 : Pw * 2 * (0 : Int).toNat = Pw * (2 * (0 : Int).toNat) := Nat.mul_assoc _ _ _
     omega
   ·have tb := Lib.hid (show valD (b.take (l.length + 1)) = valD (b.take l.length) by rw [valD_all b (by omega), valD_all b (by omega)])
    by_cases hlow : x - c < 0
    ·
     go_wp2_with (at_builtin; refine wpList_append_own _ rfl (.tmp 35) (.tmp 37) 132 rfl w.heap.size 3 i0 (.int .i64 0) 1 8 (by kernel_rfl) hi hz0 hz1 hz2 rfl (by decide) _ _ _ rfl (hown.alloc _) ⟨W.heap.size, 0, none⟩ 1 1 [.int .i64 (x - c + 2)] rfl rfl (cell_one_new _ _ _) (by simp [Value.oneCell']) (by simp [maxLen]; omega) (by omega) (by simp; omega) ?_)
     intro v' w1 hown' hgr _
     have hB := Lib.hid (below_append hW hz hown hgr)
     replace hown' := Lib.hid hown'
     clear hgr hown
     go_wp2
     refine ⟨?_, by simp [intAt]; omega⟩
     have ee : ((l.length : Int) + 1) = (((l ++ [x - c + 2]).length : Nat) : Int) := by simp
     rw [ee]
     unfold mnsRel
     refine ⟨hB.out, l ++ [x - c + 2], 1, v', frame_ex rfl, by simpa using hown'.out, hd.snoc (by omega), by omega, ?_, by simp; omega⟩
     have := hv.out
     have e1 : (x - c + 2).toNat + c.toNat = x.toNat + 2 * (1 : Int).toNat := by omega
     obtain ⟨Pw, hPw⟩ : ∃ Pw, Pw = 2 ^ l.length := ⟨_, rfl⟩
     rw [valD_snoc, List.length_append, List.length_singleton, Nat.pow_succ, ta.out, tb.out]
     rw [<- hPw] at this ⊢
     have e2 : Pw * (x - c + 2).toNat + Pw * c.toNat = Pw * x.toNat + Pw * (2 * (1 : Int).toNat) := by rw [<- Nat.mul_add, e1, Nat.mul_add]
     have e3 : Pw * 2 * (1 : Int).toNat = Pw * (2 * (1 : Int).toNat) := Nat.mul_assoc _ _ _
     omega
    ·
     go_wp2_with (at_builtin; refine wpList_append_own _ rfl (.tmp 35) (.tmp 37) 132 rfl w.heap.size 3 i0 (.int .i64 0) 1 8 (by kernel_rfl) hi hz0 hz1 hz2 rfl (by decide) _ _ _ rfl (hown.alloc _) ⟨W.heap.size, 0, none⟩ 1 1 [.int .i64 (x - c)] rfl rfl (cell_one_new _ _ _) (by simp [Value.oneCell']) (by simp [maxLen]; omega) (by omega) (by simp; omega) ?_)
     intro v' w1 hown' hgr _
     have hB := Lib.hid (below_append hW hz hown hgr)
     replace hown' := Lib.hid hown'
     clear hgr hown
     go_wp2
     refine ⟨?_, by simp [intAt]; omega⟩
     have ee : ((l.length : Int) + 1) = (((l ++ [x - c]).length : Nat) : Int) := by simp
     rw [ee]
     unfold mnsRel
     refine ⟨hB.out, l ++ [x - c], 0, v', frame_ex rfl, by simpa using hown'.out, hd.snoc (by omega), by omega, ?_, by simp; omega⟩
     have := hv.out
     have e1 : (x - c).toNat + c.toNat = x.toNat + 2 * (0 : Int).toNat := by omega
     obtain ⟨Pw, hPw⟩ : ∃ Pw, Pw = 2 ^ l.length := ⟨_, rfl⟩
     rw [valD_snoc, List.length_append, List.length_singleton, Nat.pow_succ, ta.out, tb.out]
     rw [<- hPw] at this ⊢
     have e2 : Pw * (x - c).toNat + Pw * c.toNat = Pw * x.toNat + Pw * (2 * (0 : Int).toNat) := by rw [<- Nat.mul_add, e1, Nat.mul_add]
     have e3 : Pw * 2 * (0 : Int).toNat = Pw * (2 * (0 : Int).toNat) := Nat.mul_assoc _ _ _
     omega
  ·have hl0 : l.length = a.length := by omega
   have hsum := Lib.hid (show valD l = valD a - valD b by
    have h1 := hv.out
    have h2 := valD_lt l hd
    rw [valD_all a (by omega), valD_all b (by omega)] at h1
    rcases (show c = 0 ∨ c = 1 by omega) with rfl | rfl
    ·simp at h1; omega
    ·simp at h1; omega)
   obtain ⟨p', cap', hv', hcap, hcm, hn', hI⟩ : ∃ p' cap', v = .slice p' l.length cap' /\ l.length <= cap' /\ cap' <= 9223372036854775807 /\ (p' = none -> l = [] /\ cap' = 0) /\ DigsIn W p' l := by
    obtain ⟨_, h2' | ⟨g, cap', cur, rfl, hg, hb', hn, hmx, hcc, ht⟩⟩ := hown
    ·obtain ⟨rfl, h0⟩ := h2'
     have : l = [] := List.length_eq_zero_iff.1 h0
     subst this
     exact ⟨none, 0, rfl, by simp, by omega, fun _ => ⟨rfl, rfl⟩, ⟨fun i x h => by simp at h, fun a e => by cases e⟩⟩
    ·exact ⟨some ⟨g, 0, none⟩, cap', rfl, hn, by unfold maxLen at hmx; omega, (fun e => by cases e), clone_digs hb' (by simpa using ht)⟩
   subst hv'
   have ct := fun W' (hW' : Below W.heap.size W W') => c_trim p' cap' l W' (hI.below hW') hn' hcap hcm (by omega) hd
   rw [hsum.out] at ct
   replace ct := Lib.hid ct
   clear hv hI hl0
   go_wp2_with fail
   refine (ct.out _ (Below.refl _ _)).mono ?_
   rintro e w2 ⟨v2, rfl, hb2, hB2⟩
   replace hb2 := Lib.hid hb2
   have hBB := Lib.hid (hW.trans (hB2.mono hz))
   clear hB2
   go_wp2
   go_ret
   exact ⟨v2, rfl, hb2.out, hBB.out⟩
attribute [local simp] Oper.looksAt Op.operands Call.operands envOf Det GDet
theorem canon_len {l : List Int} {k : Nat} (h : Canon l) (hv : valD l < 2 ^ k) : l.length <= k := by
 rcases h with rfl | h
 ·simp
 ·rcases Nat.lt_or_ge k l.length with h1 | h1
  ·have := Nat.pow_le_pow_right (n := 2) (by omega) (show k <= l.length - 1 by omega)
   omega
  ·exact h1
theorem c_plus (va vb : Value) (m n : Nat) (w : World) (ha : Bits w va m) (hb : Bits w vb n) (hm : m < 2 ^ 900) (hn : n < 2 ^ 900) :
  Calls Tryz.prog 117 #[va, vb] w fun e w' => ∃ v, e = .returned v /\ Bits w' v (m + n) /\ Below w.heap.size w w' := by
 obtain ⟨p, a, ca, rfl, _, _, _, hia, hda, hca, rfl⟩ := ha
 obtain ⟨q, b, cb, rfl, _, _, _, hib, hdb, hcb, rfl⟩ := hb
 have h1 := canon_len hca hm
 have h2 := canon_len hcb hn
 exact plus_w p q a b ca cb w hia hib hda hdb hca hcb (by omega) (by omega)
theorem c_minus (va vb : Value) (m n : Nat) (w : World) (ha : Bits w va m) (hb : Bits w vb n) (hm : m < 2 ^ 900) (hn : n <= m) :
  Calls Tryz.prog 119 #[va, vb] w fun e w' => ∃ v, e = .returned v /\ Bits w' v (m - n) /\ Below w.heap.size w w' := by
 obtain ⟨p, a, ca, rfl, _, _, _, hia, hda, hca, rfl⟩ := ha
 obtain ⟨q, b, cb, rfl, _, _, _, hib, hdb, hcb, rfl⟩ := hb
 have h1 := canon_len hca hm
 refine minus_w p q a b ca cb w hia hib hda hdb (by omega) ?_ hn
 rcases Nat.lt_or_ge a.length b.length with h | h
 ·have := less_len hda hcb h
  omega
 ·exact h
structure CellAt (w : World) (g o : Nat) (v : Value) : Prop where
 cell : w.cell? ⟨g, o, none⟩ = some v
theorem CellAt.rex {L : List Nat} {w w' : World} {g o : Nat} {v : Value} (h : CellAt w g o v) (hr : Rex L w w') (hL : L = []) : CellAt w' g o v := by
 subst hL
 exact ⟨(hr.below.cell (p := ⟨g, o, none⟩) (cell_lt h.cell)).trans h.cell⟩
theorem CellAt.drew {w : World} {g o : Nat} {v : Value} (h : CellAt w g o v) : CellAt w.drew g o v := ⟨h.cell⟩
theorem less_ne (p q : Option Addr) (a b : List Int) (ca cb : Nat) (w : World) (hla : a.length <= 1000) (hlb : b.length <= 1000) (hne : ((a.length : Int) != b.length) = true) :
  Calls Tryz.prog 174 #[.slice p a.length ca, .slice q b.length cb] w fun e w' => e = .returned (.bool (decide (a.length < b.length))) /\ Below w.heap.size w w' := by
 go_enter Tryz.func174, Tryz.ntmps174
 go_wp2
 go_ret
 exact ⟨rfl, Below.refl _ _⟩
def lessRel (w : World) (p q : Option Addr) (a b : List Int) (ca cb : Nat) (a' : Act) (W : World) : Prop :=
 Below w.heap.size w W /\ ∃ k : Nat, (∃ u : Nat -> Value, a' = { tmps := #[.slice p a.length ca, .slice q b.length cb, u 2, u 3, u 4, .int .i64 ((k : Int) - 1), u 6, u 7, u 8, u 9, u 10, u 11, u 12, u 13, u 14, u 15, u 16, u 17, u 18, u 19, u 20, u 21, u 22, u 23, u 24, u 25, u 26, u 27, u 28, u 29, u 30, u 31, u 32, u 33, u 34, u 35, u 36, u 37, u 38, u 39, u 40], defers := [] }) /\ k <= a.length /\ a.drop k = b.drop k
theorem less_eq (p q : Option Addr) (a b : List Int) (ca cb : Nat) (w : World) (ha : DigsIn w p a) (hb : DigsIn w q b) (hda : Dig a) (hdb : Dig b) (hla : a.length <= 1000) (heq : a.length = b.length) :
  Calls Tryz.prog 174 #[.slice p a.length ca, .slice q b.length cb] w fun e w' => e = .returned (.bool (decide (valD a < valD b))) /\ Below w.heap.size w w' := by
 have hne : ((a.length : Int) != b.length) = false := by rw [heq]; simp
 have Heq := Lib.hid heq
 clear heq
 go_enter Tryz.func174, Tryz.ntmps174
 go_wp2
 refine wp_loop (lessRel w p q a b ca cb) (fun a' _ => ((intAt (a'.tmps.getD 5 undef)) + 1).toNat) ?_ ?_
 ·unfold lessRel
  exact ⟨Below.refl _ _, a.length, frame_ex rfl, Nat.le_refl _, by rw [List.drop_eq_nil_of_le (Nat.le_refl _), List.drop_eq_nil_of_le (by rw [Heq.out]; exact Nat.le_refl _)]⟩
 ·rintro a' W ⟨hW, k, ⟨u, rfl⟩, hk, hd⟩
  have hz := hW.size
  replace hd := Lib.hid hd
  cases k with
  | zero =>
   have hab : valD a = valD b := by have := hd.out; simp at this; rw [this]
   have hf := Lib.hid (show decide (valD a < valD b) = false by simp; omega)
   clear hab hd
   go_wp2
   go_ret
   exact ⟨by rw [hf.out]; rfl, hW⟩
  | succ j =>
   obtain ⟨x, hx⟩ : ∃ x, a[j]? = some x := ⟨a[j], List.getElem?_eq_getElem (by omega)⟩
   obtain ⟨y, hy⟩ : ∃ y, b[j]? = some y := ⟨b[j]'(by rw [<- Heq.out]; omega), List.getElem?_eq_getElem _⟩
   obtain ⟨ga, oa, rfl, qa⟩ := (ha.below hW).at' _ x hx
   obtain ⟨gb, ob, rfl, qb⟩ := (hb.below hW).at' _ y hy
   have cx : CellAt W ga (oa + j) (.int .i64 x) := ⟨qa⟩
   have cy : CellAt W gb (ob + j) (.int .i64 y) := ⟨qb⟩
   have hja : j < a.length := by omega
   have hjb : j < b.length := by rw [<- Heq.out]; omega
   have hxx := Lib.hid hx
   have hyy := Lib.hid hy
   have e0 : ((j + 1 : Nat) : Int) - 1 = (j : Int) := by omega
   have e1 := Lib.hid e0
   have e2 := Lib.hid (show ((j : Int)).toNat = j by omega)
   rw [e0]
   clear hx hy qa qb e0
   have b1 := cx
   have b2 := cy
   go_upto_region 6 with (fail)
   refine wp_facts (fun W' => Below w.heap.size w W' /\ CellAt W' ga (oa + j) (.int .i64 x) /\ CellAt W' gb (ob + j) (.int .i64 y)) ⟨by exact belowAny, by exact b1, by exact b2⟩ ?_
   clear b1 b2 hW
   rintro W1 ⟨hW, b1, b2⟩
   have z2 := hW.size
   refine wp_region_ndQ 9 41 [] (fun W' => Rex [] W1 W' /\ CellAt W' ga (oa + j) (.int .i64 x) /\ CellAt W' gb (ob + j) (.int .i64 y)) mixed (by kernel_rfl) rfl ⟨(Rex.refl _ _).drew, b1.drew, b2.drew⟩ (fun w w' ⟨h0, h1, h2⟩ hr => ⟨h0.trans hr, h1.rex hr (by simp <;> omega), h2.rex hr (by simp <;> omega)⟩) rfl ?_
   iterate 9
    apply nd_det (hg := rfl) (hal := rfl)
    ·intro a W' hC hE
     obtain ⟨_, k1, k2⟩ := hC
     have k1 := k1.cell
     have k2 := k2.cell
     first
      | (simp at hE; simp [go_sem, Act.eval, IntWalk.i64_left, hE, k1, k2, hja, hjb, e1.out, e2.out]; try rfl)
      | (clear hE; simp [go_sem, Act.eval, IntWalk.i64_left, k1, k2, hja, hjb, e1.out, e2.out]; try rfl)
   rintro W3 ⟨hR, d1, d2⟩
   simp only [ndFinR, Det, forall_eq]
   intros
   repeat (rename GDet _ _ _ _ => hgd; clear hgd)
   simp only [Act.put, List.setIfInBounds_toArray, List.set_cons_zero, List.set_cons_succ]
   refine wpList_nil ?_
   replace hW := hW.trans (hR.of_priv hW.size)
   clear hR
   try clear b1 b2
   have b1 := d1
   clear d1
   have b2 := d2
   clear d2
   by_cases hxy : x = y
   ·have hdj := Lib.hid (show a.drop j = b.drop j by
     rw [List.drop_eq_getElem_cons hja, List.drop_eq_getElem_cons hjb, hd.out]
     have t1 := hxx.out; have t2 := hyy.out
     rw [List.getElem?_eq_getElem hja] at t1
     rw [List.getElem?_eq_getElem hjb] at t2
     simp at t1 t2
     rw [t1, t2, hxy])
    have hb := Lib.hid (show (x != y) = false by simp [hxy])
    rw [hb.out]
    clear hd
    go_wp2
    refine ⟨?_, by simp [intAt]⟩
    unfold lessRel
    exact ⟨hW, j, frame_ex rfl, by omega, hdj.out⟩
   ·have hb := Lib.hid (show (x != y) = true by simp [hxy])
    rw [hb.out]
    have hres := Lib.hid (show decide (x < y) = decide (valD a < valD b) by
     have t1 := less_at hda hdb Heq.out hxx.out hyy.out hd.out
     have t2 := less_at hdb hda Heq.out.symm hyy.out hxx.out hd.out.symm
     rcases Int.lt_trichotomy x y with h | h | h
     ·simp [h, t1 h]
     ·exact absurd h hxy
     ·have := t2 h
      simp; omega)
    go_wp2
    go_upto_region 7 with (fail)
    refine wp_facts (fun W' => Below w.heap.size w W' /\ CellAt W' ga (oa + j) (.int .i64 x) /\ CellAt W' gb (ob + j) (.int .i64 y)) ⟨by exact belowAny, by exact b1, by exact b2⟩ ?_
    clear b1 b2 hW
    rintro W8 ⟨hW, b1, b2⟩
    have z9 := hW.size
    refine wp_region_ndQ 10 41 [] (fun W' => Rex [] W8 W' /\ CellAt W' ga (oa + j) (.int .i64 x) /\ CellAt W' gb (ob + j) (.int .i64 y)) mixed (by kernel_rfl) rfl ⟨(Rex.refl _ _).drew, b1.drew, b2.drew⟩ (fun w w' ⟨h0, h1, h2⟩ hr => ⟨h0.trans hr, h1.rex hr (by simp <;> omega), h2.rex hr (by simp <;> omega)⟩) rfl ?_
    iterate 10
     apply nd_det (hg := rfl) (hal := rfl)
     ·intro a W' hC hE
      obtain ⟨_, k1, k2⟩ := hC
      have k1 := k1.cell
      have k2 := k2.cell
      first
       | (simp at hE; simp [go_sem, Act.eval, IntWalk.i64_left, hE, k1, k2, hja, hjb, e1.out, e2.out]; try rfl)
       | (clear hE; simp [go_sem, Act.eval, IntWalk.i64_left, k1, k2, hja, hjb, e1.out, e2.out]; try rfl)
    rintro W10 ⟨hR, d1, d2⟩
    simp only [ndFinR, Det, forall_eq]
    intros
    repeat (rename GDet _ _ _ _ => hgd; clear hgd)
    simp only [Act.put, List.setIfInBounds_toArray, List.set_cons_zero, List.set_cons_succ]
    refine wpList_nil ?_
    replace hW := hW.trans (hR.of_priv hW.size)
    clear hR
    try clear b1 b2
    have b1 := d1
    clear d1
    have b2 := d2
    clear d2
    go_wp2
    rw [hres.out]
    go_ret
    exact ⟨rfl, hW⟩
theorem c_less (va vb : Value) (m n : Nat) (w : World) (ha : Bits w va m) (hb : Bits w vb n) (hm : m < 2 ^ 900) (hn : n < 2 ^ 900) :
  Calls Tryz.prog 174 #[va, vb] w fun e w' => e = .returned (.bool (decide (m < n))) /\ Below w.heap.size w w' := by
 obtain ⟨p, a, ca, rfl, _, _, _, hia, hda, hca, rfl⟩ := ha
 obtain ⟨q, b, cb, rfl, _, _, _, hib, hdb, hcb, rfl⟩ := hb
 have h1 := canon_len hca hm
 have h2 := canon_len hcb hn
 by_cases he : a.length = b.length
 ·exact less_eq p q a b ca cb w hia hib hda hdb (by omega) he
 ·refine (less_ne p q a b ca cb w (by omega) (by omega) (by simp; omega)).mono ?_
  rintro e w' ⟨rfl, h⟩
  refine ⟨?_, h⟩
  congr 2
  rcases Nat.lt_or_ge a.length b.length with h3 | h3
  ·have := less_len hda hcb h3
   simp [h3, this]
  ·have := less_len hdb hca (by omega)
   simp; omega
end Go.Proofs.YtbanjolokkghdaaGreatDoor
namespace Go.Proofs.YtbanjolokkghdaaGreatDoor
open Go.RowKit
theorem row_ints {w : World} {base n : Nat} {v : Value} {l : List Int} (h : w.ownsRow base 3 1 v n (l.map (Value.int .i64))) (hn : n = l.length) :
  ∃ p cap, v = .slice p l.length cap /\ l.length <= cap /\ cap <= 9223372036854775807 /\ (p = none -> l = [] /\ cap = 0) /\ DigsIn w p l := by
 subst hn
 obtain ⟨_, h2' | ⟨g, cap', cur, rfl, hg, hb', hn, hmx, hcc, ht⟩⟩ := h
 ·obtain ⟨rfl, h0⟩ := h2'
  have : l = [] := List.length_eq_zero_iff.1 h0
  subst this
  exact ⟨none, 0, rfl, by simp, by omega, fun _ => ⟨rfl, rfl⟩, ⟨fun i x h => by simp at h, fun a e => by cases e⟩⟩
 ·exact ⟨some ⟨g, 0, none⟩, cap', rfl, by simpa using hn, by unfold maxLen at hmx; omega, (fun e => by cases e), clone_digs hb' (by simpa using ht)⟩
theorem row_fresh {B : Nat} (W : World) (d : Int) (hB : B <= W.heap.size) :
  (W.alloc (.cells #[.int .i64 d] 3)).ownsRow B 3 1 (.slice (some ⟨W.heap.size, 0, none⟩) 1 1) 1 [.int .i64 d] :=
 ⟨rfl, .inr ⟨W.heap.size, 1, #[.int .i64 d], rfl, hB, Array.getElem?_push_size, Nat.le_refl _, by unfold maxLen; omega, rfl, rfl⟩⟩
theorem fresh_ints (W : World) (d : Int) : DigsIn (W.alloc (.cells #[.int .i64 d] 3)) (some ⟨W.heap.size, 0, none⟩) [d] := by
 obtain ⟨p, cap, e, _, _, _, h⟩ := row_ints (l := [d]) (row_fresh W d (Nat.le_refl _)) rfl
 cases e
 exact h
theorem ints_one (l : List Int) : ∀ u ∈ l.map (Value.int .i64), u.oneCell' = true := by
 intro u hu
 obtain ⟨x, _, rfl⟩ := List.mem_map.1 hu
 rfl
theorem ints_new {W : World} {ad : Addr} {l : List Int} {o : Obj} (h : DigsIn W (some ad) l) : ∀ j u, (l.map (Value.int .i64))[j]? = some u -> (W.alloc o).cell? (ad.add j) = some u := by
 intro j u hu
 rw [List.getElem?_map] at hu
 obtain ⟨x, hx, rfl⟩ := Option.map_eq_some_iff.1 hu
 obtain ⟨b, o', e, hc⟩ := h.at' j x hx
 cases e
 have := (((Below.refl W.heap.size W).alloc (Nat.le_refl _) o).cell (p := ⟨b, o' + j, none⟩) (cell_lt hc)).trans hc
 rw [Addr.add_lit]
 exact this
theorem valD_pow {l : List Int} (h : Dig l) {k : Nat} (hl : l.length <= k) : valD l < 2 ^ k :=
 Nat.lt_of_lt_of_le (valD_lt l h) (Nat.pow_le_pow_right (by omega) hl)
theorem valD_drop {b : List Int} {j : Nat} {y : Int} (h : b[j]? = some y) : valD (b.drop j) = y.toNat + 2 * valD (b.drop (j + 1)) := by
 obtain ⟨h1, h2⟩ := List.getElem?_eq_some_iff.1 h
 rw [List.drop_eq_getElem_cons h1, h2]
 rfl
theorem mul_pow {m n : Nat} (j k i : Nat) (h1 : m < 2 ^ j) (h2 : n < 2 ^ k) (h : j + k = i) : m * n < 2 ^ i := by
 subst h
 rw [Nat.pow_add]
 exact Nat.mul_lt_mul'' h1 h2
def timRel (w : World) (p q : Option Addr) (a b : List Int) (ca cb : Nat) (a' : Act) (W : World) : Prop :=
 Below w.heap.size w W /\ ∃ (k : Nat) (v : Value), (∃ u : Nat -> Value, a' = { tmps := #[.slice p a.length ca, .slice q b.length cb, u 2, u 3, u 4, v, .int .i64 ((k : Int) - 1), u 7, u 8, u 9, u 10, u 11, u 12, u 13, u 14, u 15, u 16, u 17, u 18, u 19, u 20, u 21, u 22, u 23, u 24, u 25, u 26], defers := [] }) /\ k <= b.length /\ Bits W v (valD a * valD (b.drop k))
theorem times_w (p q : Option Addr) (a b : List Int) (ca cb : Nat) (w : World) (ha : DigsIn w p a) (hb : DigsIn w q b) (hda : Dig a) (hdb : Dig b) (hA : Bits w (.slice p a.length ca) (valD a)) (hla : a.length <= 400) (hlb : b.length <= 400) :
  Calls Tryz.prog 175 #[.slice p a.length ca, .slice q b.length cb] w fun e w' => ∃ v, e = .returned v /\ Bits w' v (valD a * valD b) /\ Below w.heap.size w w' := by
 obtain ⟨i0, hi, hz0, hz1, hz2⟩ := info_parts Tryz.infoI
 go_enter Tryz.func175, Tryz.ntmps175
 go_wp2
 refine wp_loop (timRel w p q a b ca cb) (fun a' _ => ((intAt (a'.tmps.getD 6 undef)) + 1).toNat) ?_ ?_
 ·unfold timRel
  exact ⟨Below.refl _ _, b.length, _, frame_ex rfl, Nat.le_refl _, by rw [List.drop_eq_nil_of_le (Nat.le_refl _)]; exact Bits.zero _⟩
 ·rintro a' W ⟨hW, k, v, ⟨u, rfl⟩, hk, hv⟩
  have hz := hW.size
  cases k with
  | zero =>
   replace hv := Lib.hid hv
   go_wp2
   go_ret
   exact ⟨_, rfl, by have := hv.out; rwa [List.drop_zero] at this, hW⟩
  | succ j =>
   obtain ⟨y, hy⟩ : ∃ y, b[j]? = some y := ⟨b[j], List.getElem?_eq_getElem (by omega)⟩
   have hb0 := hb
   obtain ⟨gb, ob, rfl, qb⟩ := (hb.below hW).at' _ y hy
   obtain ⟨pl, l, cl, rfl, hlc, hl1, hln, hil, hdl, hcl, hvl⟩ := hv
   replace hvl := Lib.hid hvl
   replace hln := Lib.hid hln
   have hyy := Lib.hid hy
   have by01 := hdb.at hy
   have e0 : ((j + 1 : Nat) : Int) - 1 = (j : Int) := by omega
   have e1 := Lib.hid e0
   rw [e0]
   clear hy e0
   have hprod := Lib.hid (mul_pow (m := valD a) (n := valD (b.drop (j + 1))) 400 400 800 (valD_pow (k := 400) hda hla) (valD_pow (k := 400) (hdb.drop _) (by simp; omega)) rfl)
   have hstep := Lib.hid (valD_drop hyy.out)
   have hl9 : l.length <= 800 := canon_len hcl (by rw [hvl.out]; exact hprod.out)
   cases pl with
   | none =>
    obtain ⟨rfl, rfl⟩ := hln.out rfl
    have ct := Lib.hid (fun W' (hW' : Below (W.alloc (.cells #[.int .i64 0] 3)).heap.size (W.alloc (.cells #[.int .i64 0] 3)) W') => c_trim (some ⟨W.heap.size, 0, none⟩) 1 [0] W' ((fresh_ints W 0).below hW') (fun e => by cases e) (by simp) (by omega) (by simp) (Dig.nil.cons (.inl rfl)))
    have hB := hW.alloc hz (.cells #[.int .i64 0] 3)
    replace hB := Lib.hid hB
    have hz1 := hB.out.size
    go_wp2_with fail
    refine (ct.out _ (Below.refl _ _)).mono ?_
    rintro e w2 ⟨v2, rfl, hb2, hB2⟩
    rw [show valD (0 :: []) = 2 * (valD a * valD (b.drop (j + 1))) by rw [<- hvl.out]; simp [valD]] at hb2
    replace hb2 := Lib.hid hb2
    have hBB := Lib.hid (hB.out.trans (hB2.mono hz1))
    have hz2 := hBB.out.size
    obtain ⟨_, _, e, qb2⟩ := (hb0.below hBB.out).at' _ y hyy.out
    cases e
    clear hB2 hB ct hz1 qb
    rcases by01 with rfl | rfl
    ·have hval := Lib.hid (show valD a * valD (b.drop j) = 2 * (valD a * valD (b.drop (j + 1))) by rw [hstep.out, Nat.mul_add, Nat.mul_left_comm]; simp)
     go_wp2
     refine ⟨?_, by simp [intAt]⟩
     unfold timRel
     exact ⟨hBB.out, j, v2, frame_ex rfl, by omega, by rw [hval.out]; exact hb2.out⟩
    ·have hval := Lib.hid (show valD a * valD (b.drop j) = 2 * (valD a * valD (b.drop (j + 1))) + valD a by rw [hstep.out, Nat.mul_add, Nat.mul_left_comm]; simp; omega)
     have cp := Lib.hid (c_plus v2 (.slice p a.length ca) _ _ w2 hb2.out (hA.below hBB.out) (twice_pow 800 900 hprod.out (by omega)) (valD_pow (k := 900) hda (by omega)))
     go_wp2_with fail
     refine cp.out.mono ?_
     rintro e w3 ⟨v3, rfl, hb3, hB3⟩
     replace hb3 := Lib.hid hb3
     have hB4 := Lib.hid (hBB.out.trans (hB3.mono hz2))
     clear hB3 cp
     go_wp2
     refine ⟨?_, by simp [intAt]⟩
     unfold timRel
     exact ⟨hB4.out, j, v3, frame_ex rfl, by omega, by rw [hval.out]; exact hb3.out⟩
   | some ad =>
    go_wp2_with (at_builtin; refine wpList_append_own _ rfl (.tmp 14) (.tmp 15) 132 rfl w.heap.size 3 i0 (.int .i64 0) 1 8 (by kernel_rfl) hi hz0 hz1 hz2 rfl (by decide) _ 1 [.int .i64 0] rfl (row_fresh W 0 hz) ad l.length cl (l.map (Value.int .i64)) rfl (by simp) (ints_new hil) (ints_one l) (by simp [maxLen]; omega) (by omega) (by simp; omega) ?_)
    intro v' w1 hown hgr _
    obtain ⟨p', cap', rfl, hcap, hcm, hn', hI⟩ := row_ints (l := 0 :: l) hown (by simp; omega)
    have hB := (hW.alloc hz (.cells #[.int .i64 0] 3)).grown hgr (by simp; omega) fun j ej => by
     obtain rfl : W.heap.size = j := by simpa [Value.ownBlock] using ej
     exact hz
    have ct := Lib.hid (fun W' (hW' : Below w1.heap.size w1 W') => c_trim p' cap' (0 :: l) W' (hI.below hW') hn' hcap hcm (by simp; omega) (hdl.cons (.inl rfl)))
    clear hown hgr hI
    replace hB := Lib.hid hB
    have hz1 := hB.out.size
    go_wp2_with fail
    refine (ct.out _ (Below.refl _ _)).mono ?_
    rintro e w2 ⟨v2, rfl, hb2, hB2⟩
    rw [show valD (0 :: l) = 2 * (valD a * valD (b.drop (j + 1))) by rw [<- hvl.out]; simp [valD]] at hb2
    replace hb2 := Lib.hid hb2
    have hBB := Lib.hid (hB.out.trans (hB2.mono hz1))
    have hz2 := hBB.out.size
    obtain ⟨_, _, e, qb2⟩ := (hb0.below hBB.out).at' _ y hyy.out
    cases e
    clear hB2 hB ct hz1 qb
    rcases by01 with rfl | rfl
    ·have hval := Lib.hid (show valD a * valD (b.drop j) = 2 * (valD a * valD (b.drop (j + 1))) by rw [hstep.out, Nat.mul_add, Nat.mul_left_comm]; simp)
     go_wp2
     refine ⟨?_, by simp [intAt]⟩
     unfold timRel
     exact ⟨hBB.out, j, v2, frame_ex rfl, by omega, by rw [hval.out]; exact hb2.out⟩
    ·have hval := Lib.hid (show valD a * valD (b.drop j) = 2 * (valD a * valD (b.drop (j + 1))) + valD a by rw [hstep.out, Nat.mul_add, Nat.mul_left_comm]; simp; omega)
     have cp := Lib.hid (c_plus v2 (.slice p a.length ca) _ _ w2 hb2.out (hA.below hBB.out) (twice_pow 800 900 hprod.out (by omega)) (valD_pow (k := 900) hda (by omega)))
     go_wp2_with fail
     refine cp.out.mono ?_
     rintro e w3 ⟨v3, rfl, hb3, hB3⟩
     replace hb3 := Lib.hid hb3
     have hB4 := Lib.hid (hBB.out.trans (hB3.mono hz2))
     clear hB3 cp
     go_wp2
     refine ⟨?_, by simp [intAt]⟩
     unfold timRel
     exact ⟨hB4.out, j, v3, frame_ex rfl, by omega, by rw [hval.out]; exact hb3.out⟩
theorem c_times (va vb : Value) (m n : Nat) (w : World) (ha : Bits w va m) (hb : Bits w vb n) (hm : m < 2 ^ 400) (hn : n < 2 ^ 400) :
  Calls Tryz.prog 175 #[va, vb] w fun e w' => ∃ v, e = .returned v /\ Bits w' v (m * n) /\ Below w.heap.size w w' := by
 have hA := ha
 obtain ⟨p, a, ca, rfl, _, _, _, hia, hda, hca, rfl⟩ := ha
 obtain ⟨q, b, cb, rfl, _, _, _, hib, hdb, hcb, rfl⟩ := hb
 exact times_w p q a b ca cb w hia hib hda hdb hA (canon_len hca hm) (canon_len hcb hn)
end Go.Proofs.YtbanjolokkghdaaGreatDoor
