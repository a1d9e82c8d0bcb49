/- Parts of the proof that follows: SeriesFloor, walked. No condition. -/
import Derived.Test.YtpdhdjlhicceoaaGreatDoorFw32
set_option linter.unusedSimpArgs false
set_option linter.unusedVariables false
namespace Go.Proofs.YtpdhdjlhicceoaaGreatDoor
open Go.RowKit
set_option maxRecDepth 100000 in
set_option maxHeartbeats 2000000 in
theorem floor_w1 (nm : ByteArray) (ep fl la sc : Int) (ps po : Option Addr) (ns cs no co : Nat) (S F B O K : SerT) (a b lo hi E1 E2 E3 E4 : Int) (w : World) (hsw : (¬b < a ∧ a = lo ∧ b = hi) ∨ (b < a ∧ b = lo ∧ a = hi)) (hE1 : (E1 != 0) = true)
    (c1 : Hid (∀ W, Below w.heap.size w W → Calls Tryz.prog 11 #[] W fun e w' => e = .returned (.bool true) ∧ Below W.heap.size W w'))
    (c2 : Hid (∀ W, Below w.heap.size w W → Calls Tryz.prog 15 #[.agg #[.string nm, .int .i64 ep, .int .i64 fl, .int .i64 la, .int .i64 sc, .slice ps ns cs, .slice po no co]] W fun e w' => ∃ v, e = .returned v ∧ Below W.heap.size W w' ∧ OSer S v w'))
    (c3 : Hid (∀ W p c q d, SerIn W S p q → Calls Tryz.prog 22 #[.agg #[.string S.name, .int .i64 S.eps, .int .i64 S.floor, .int .i64 S.last, .int .i64 S.scale, .slice p S.segs.length c, .slice q S.opn.length d], .int .i64 lo] W fun e w' => ∃ p' c' q' d', e = .returned (.tuple #[.agg #[.string F.name, .int .i64 F.eps, .int .i64 F.floor, .int .i64 F.last, .int .i64 F.scale, .slice p' F.segs.length c', .slice q' F.opn.length d'], .int .i64 E1]) ∧ Below W.heap.size W w' ∧ SerIn w' F p' q'))
    (c4 : Hid (∀ W p c q d, SerIn W F p q → Calls Tryz.prog 22 #[.agg #[.string F.name, .int .i64 F.eps, .int .i64 F.floor, .int .i64 F.last, .int .i64 F.scale, .slice p F.segs.length c, .slice q F.opn.length d], .int .i64 hi] W fun e w' => ∃ p' c' q' d', e = .returned (.tuple #[.agg #[.string B.name, .int .i64 B.eps, .int .i64 B.floor, .int .i64 B.last, .int .i64 B.scale, .slice p' B.segs.length c', .slice q' B.opn.length d'], .int .i64 E2]) ∧ Below W.heap.size W w' ∧ SerIn w' B p' q'))
    (c5 : Hid (∀ W p c q d, SerIn W S p q → Calls Tryz.prog 22 #[.agg #[.string S.name, .int .i64 S.eps, .int .i64 S.floor, .int .i64 S.last, .int .i64 S.scale, .slice p S.segs.length c, .slice q S.opn.length d], .int .i64 hi] W fun e w' => ∃ p' c' q' d', e = .returned (.tuple #[.agg #[.string O.name, .int .i64 O.eps, .int .i64 O.floor, .int .i64 O.last, .int .i64 O.scale, .slice p' O.segs.length c', .slice q' O.opn.length d'], .int .i64 E3]) ∧ Below W.heap.size W w' ∧ SerIn w' O p' q')) :
    Calls Tryz.prog 10 #[.agg #[.string nm, .int .i64 ep, .int .i64 fl, .int .i64 la, .int .i64 sc, .slice ps ns cs, .slice po no co], .int .i64 a, .int .i64 b] w fun e w' => e = .returned (.bool true) ∧ Below w.heap.size w w' := by
  rcases hsw with ⟨hab, rfl, rfl⟩ | ⟨hab, rfl, rfl⟩
  · go_enter Tryz.func10, Tryz.ntmps10
    go_upto_region 1 with (fail)
    refine wp_cutB w (Bc w.heap.size #[.string nm, .int .i64 ep, .int .i64 fl, .int .i64 la, .int .i64 sc, .slice ps ns cs, .slice po no co] 26 <| Bz) ?_
    rintro W1 hW z2 ⟨⟨b1, yb1, k1, f1⟩, -⟩
    go_wp2_with fail
    refine (c1.out _ belowAny).mono ?_
    rintro e w3 ⟨rfl, hb3⟩
    have z4 := hb3.size
    try simp at z4
    clear k1 f1
    refine haveB w w3 (Bc w.heap.size #[.string nm, .int .i64 ep, .int .i64 fl, .int .i64 la, .int .i64 sc, .slice ps ns cs, .slice po no co] 26 <| Bz) ?_
    clear b1 hW
    rintro hW z5 ⟨⟨b1, yb1, k1, f1⟩, -⟩
    clear hb3
    go_upto_region 3 with (fail)
    clear k1 f1
    refine wp_cutB w (Bc w.heap.size #[.string nm, .int .i64 ep, .int .i64 fl, .int .i64 la, .int .i64 sc, .slice ps ns cs, .slice po no co] 26 <| Bz) ?_
    clear b1 hW
    rintro W6 hW z7 ⟨⟨b1, yb1, k1, f1⟩, -⟩
    go_wp2_with fail
    refine (c2.out _ hW).mono ?_
    rintro e w8 ⟨v, rfl, hb8, hO⟩
    have z9 := hb8.size
    try simp at z9
    clear k1 f1
    refine haveB w w8 (Bc w.heap.size #[.string nm, .int .i64 ep, .int .i64 fl, .int .i64 la, .int .i64 sc, .slice ps ns cs, .slice po no co] 26 <| Bz) ?_
    clear b1 hW
    rintro hW z10 ⟨⟨b1, yb1, k1, f1⟩, -⟩
    obtain ⟨pa, qa, ca, va, rfl, hO⟩ := hO
    replace hO := hO.inn
    unfold serA
    clear c2 c1
    go_upto_region 4 with (fail)
    clear k1 f1
    refine wp_cutB w (Bc w.heap.size #[.string nm, .int .i64 ep, .int .i64 fl, .int .i64 la, .int .i64 sc, .slice ps ns cs, .slice po no co] 26 <| Bc w8.heap.size #[.string S.name, .int .i64 S.eps, .int .i64 S.floor, .int .i64 S.last, .int .i64 S.scale, .slice pa S.segs.length ca, .slice qa S.opn.length va] 26 <| Rc (fun W' => SerIn W' S pa qa) <| Bz) ?_ (hI := by exact belowAny) (hR := (Bc.mk (by exact blkAny2) <| Bc.mk (by exact blkAny2) <| Rc.mk (by exact hO.below (by exact belowAny)) <| trivial))
    clear b1 hW
    rintro W11 hW z12 ⟨⟨b1, yb1, k1, f1⟩, ⟨b2, yb2, k2, f2⟩, b3, -⟩
    clear hO
    go_upto_region 6 with (fail)
    clear k1 f1 k2 f2
    refine wp_cutB w (Bc w.heap.size #[.string nm, .int .i64 ep, .int .i64 fl, .int .i64 la, .int .i64 sc, .slice ps ns cs, .slice po no co] 26 <| Bc w8.heap.size #[.string S.name, .int .i64 S.eps, .int .i64 S.floor, .int .i64 S.last, .int .i64 S.scale, .slice pa S.segs.length ca, .slice qa S.opn.length va] 26 <| Rc (fun W' => SerIn W' S pa qa) <| Bz) ?_ (hI := by exact belowAny) (hR := (Bc.mk (by exact blkAny2) <| Bc.mk (by exact blkAny2) <| Rc.mk (by exact b3.below (by first | assumption | exact belowAny)) <| trivial))
    clear b1 b2 b3 hW
    rintro W13 hW z14 ⟨⟨b1, yb1, k1, f1⟩, ⟨b2, yb2, k2, f2⟩, b3, -⟩
    go_wp2_with fail
    refine (c3.out _ pa ca qa va b3).mono ?_
    rintro e w15 ⟨p1, d1, q1, v1, rfl, hb15, h1⟩
    have z16 := hb15.size
    try simp at z16
    clear k1 f1 k2 f2
    refine haveB w w15 (Bc w.heap.size #[.string nm, .int .i64 ep, .int .i64 fl, .int .i64 la, .int .i64 sc, .slice ps ns cs, .slice po no co] 26 <| Bc w8.heap.size #[.string S.name, .int .i64 S.eps, .int .i64 S.floor, .int .i64 S.last, .int .i64 S.scale, .slice pa S.segs.length ca, .slice qa S.opn.length va] 26 <| Rc (fun W' => SerIn W' S pa qa) <| Bz) ?_ (hR := (Bc.mk (by exact blkAny2) <| Bc.mk (by exact blkAny2) <| Rc.mk (by exact b3.below (by first | assumption | exact belowAny)) <| trivial))
    clear b1 b2 b3 hW
    rintro hW z17 ⟨⟨b1, yb1, k1, f1⟩, ⟨b2, yb2, k2, f2⟩, b3, -⟩
    go_upto_region 7 with (fail)
    clear k1 f1 k2 f2
    refine wp_cutB w (Bc w.heap.size #[.string nm, .int .i64 ep, .int .i64 fl, .int .i64 la, .int .i64 sc, .slice ps ns cs, .slice po no co] 26 <| Bc w8.heap.size #[.string S.name, .int .i64 S.eps, .int .i64 S.floor, .int .i64 S.last, .int .i64 S.scale, .slice pa S.segs.length ca, .slice qa S.opn.length va] 26 <| Rc (fun W' => SerIn W' S pa qa) <| Bc w15.heap.size #[.string F.name, .int .i64 F.eps, .int .i64 F.floor, .int .i64 F.last, .int .i64 F.scale, .slice p1 F.segs.length d1, .slice q1 F.opn.length v1] 26 <| Rc (fun W' => SerIn W' F p1 q1) <| Bz) ?_ (hI := by exact belowAny) (hR := (Bc.mk (by exact blkAny2) <| Bc.mk (by exact blkAny2) <| Rc.mk (by exact b3.below (by first | assumption | exact belowAny)) <| Bc.mk (by exact blkAny2) <| Rc.mk (by exact h1.below (by exact belowAny)) <| trivial))
    clear b1 b2 b3 hW
    rintro W18 hW z19 ⟨⟨b1, yb1, k1, f1⟩, ⟨b2, yb2, k2, f2⟩, b3, ⟨b4, yb4, k4, f4⟩, b5, -⟩
    clear h1
    go_wp2_with fail
    refine (c4.out _ p1 d1 q1 v1 b5).mono ?_
    rintro e w20 ⟨p2, d2, q2, v2, rfl, hb20, h2⟩
    have z21 := hb20.size
    try simp at z21
    clear k1 f1 k2 f2 k4 f4
    refine haveB w w20 (Bc w.heap.size #[.string nm, .int .i64 ep, .int .i64 fl, .int .i64 la, .int .i64 sc, .slice ps ns cs, .slice po no co] 26 <| Bc w8.heap.size #[.string S.name, .int .i64 S.eps, .int .i64 S.floor, .int .i64 S.last, .int .i64 S.scale, .slice pa S.segs.length ca, .slice qa S.opn.length va] 26 <| Rc (fun W' => SerIn W' S pa qa) <| Bc w15.heap.size #[.string F.name, .int .i64 F.eps, .int .i64 F.floor, .int .i64 F.last, .int .i64 F.scale, .slice p1 F.segs.length d1, .slice q1 F.opn.length v1] 26 <| Rc (fun W' => SerIn W' F p1 q1) <| Bz) ?_ (hR := (Bc.mk (by exact blkAny2) <| Bc.mk (by exact blkAny2) <| Rc.mk (by exact b3.below (by first | assumption | exact belowAny)) <| Bc.mk (by exact blkAny2) <| Rc.mk (by exact b5.below (by first | assumption | exact belowAny)) <| trivial))
    clear b1 b2 b3 b4 b5 hW
    rintro hW z22 ⟨⟨b1, yb1, k1, f1⟩, ⟨b2, yb2, k2, f2⟩, b3, ⟨b4, yb4, k4, f4⟩, b5, -⟩
    go_upto_region 8 with (fail)
    clear k1 f1 k2 f2 k4 f4
    refine wp_cutB w (Bc w.heap.size #[.string nm, .int .i64 ep, .int .i64 fl, .int .i64 la, .int .i64 sc, .slice ps ns cs, .slice po no co] 26 <| Bc w8.heap.size #[.string S.name, .int .i64 S.eps, .int .i64 S.floor, .int .i64 S.last, .int .i64 S.scale, .slice pa S.segs.length ca, .slice qa S.opn.length va] 26 <| Rc (fun W' => SerIn W' S pa qa) <| Bc w15.heap.size #[.string F.name, .int .i64 F.eps, .int .i64 F.floor, .int .i64 F.last, .int .i64 F.scale, .slice p1 F.segs.length d1, .slice q1 F.opn.length v1] 26 <| Rc (fun W' => SerIn W' F p1 q1) <| Bc w20.heap.size #[.string B.name, .int .i64 B.eps, .int .i64 B.floor, .int .i64 B.last, .int .i64 B.scale, .slice p2 B.segs.length d2, .slice q2 B.opn.length v2] 26 <| Rc (fun W' => SerIn W' B p2 q2) <| Bz) ?_ (hI := by exact belowAny) (hR := (Bc.mk (by exact blkAny2) <| Bc.mk (by exact blkAny2) <| Rc.mk (by exact b3.below (by first | assumption | exact belowAny)) <| Bc.mk (by exact blkAny2) <| Rc.mk (by exact b5.below (by first | assumption | exact belowAny)) <| Bc.mk (by exact blkAny2) <| Rc.mk (by exact h2.below (by exact belowAny)) <| trivial))
    clear b1 b2 b3 b4 b5 hW
    rintro W23 hW z24 ⟨⟨b1, yb1, k1, f1⟩, ⟨b2, yb2, k2, f2⟩, b3, ⟨b4, yb4, k4, f4⟩, b5, ⟨b6, yb6, k6, f6⟩, b7, -⟩
    clear h2
    go_wp2_with fail
    refine (c5.out _ pa ca qa va b3).mono ?_
    rintro e w25 ⟨p3, d3, q3, v3, rfl, hb25, h3⟩
    have z26 := hb25.size
    try simp at z26
    clear k1 f1 k2 f2 k4 f4 k6 f6
    refine haveB w w25 (Bc w.heap.size #[.string nm, .int .i64 ep, .int .i64 fl, .int .i64 la, .int .i64 sc, .slice ps ns cs, .slice po no co] 26 <| Bc w8.heap.size #[.string S.name, .int .i64 S.eps, .int .i64 S.floor, .int .i64 S.last, .int .i64 S.scale, .slice pa S.segs.length ca, .slice qa S.opn.length va] 26 <| Rc (fun W' => SerIn W' S pa qa) <| Bc w15.heap.size #[.string F.name, .int .i64 F.eps, .int .i64 F.floor, .int .i64 F.last, .int .i64 F.scale, .slice p1 F.segs.length d1, .slice q1 F.opn.length v1] 26 <| Rc (fun W' => SerIn W' F p1 q1) <| Bc w20.heap.size #[.string B.name, .int .i64 B.eps, .int .i64 B.floor, .int .i64 B.last, .int .i64 B.scale, .slice p2 B.segs.length d2, .slice q2 B.opn.length v2] 26 <| Rc (fun W' => SerIn W' B p2 q2) <| Bz) ?_ (hR := (Bc.mk (by exact blkAny2) <| Bc.mk (by exact blkAny2) <| Rc.mk (by exact b3.below (by first | assumption | exact belowAny)) <| Bc.mk (by exact blkAny2) <| Rc.mk (by exact b5.below (by first | assumption | exact belowAny)) <| Bc.mk (by exact blkAny2) <| Rc.mk (by exact b7.below (by first | assumption | exact belowAny)) <| trivial))
    clear b1 b2 b3 b4 b5 b6 b7 hW
    rintro hW z27 ⟨⟨b1, yb1, k1, f1⟩, ⟨b2, yb2, k2, f2⟩, b3, ⟨b4, yb4, k4, f4⟩, b5, ⟨b6, yb6, k6, f6⟩, b7, -⟩
    go_upto_region 9 with (fail)
    clear k1 f1 k2 f2 k4 f4 k6 f6
    refine wp_cutB w (Bc w.heap.size #[.string nm, .int .i64 ep, .int .i64 fl, .int .i64 la, .int .i64 sc, .slice ps ns cs, .slice po no co] 26 <| Bc w8.heap.size #[.string S.name, .int .i64 S.eps, .int .i64 S.floor, .int .i64 S.last, .int .i64 S.scale, .slice pa S.segs.length ca, .slice qa S.opn.length va] 26 <| Rc (fun W' => SerIn W' S pa qa) <| Bc w15.heap.size #[.string F.name, .int .i64 F.eps, .int .i64 F.floor, .int .i64 F.last, .int .i64 F.scale, .slice p1 F.segs.length d1, .slice q1 F.opn.length v1] 26 <| Rc (fun W' => SerIn W' F p1 q1) <| Bc w20.heap.size #[.string B.name, .int .i64 B.eps, .int .i64 B.floor, .int .i64 B.last, .int .i64 B.scale, .slice p2 B.segs.length d2, .slice q2 B.opn.length v2] 26 <| Rc (fun W' => SerIn W' B p2 q2) <| Bc w25.heap.size #[.string O.name, .int .i64 O.eps, .int .i64 O.floor, .int .i64 O.last, .int .i64 O.scale, .slice p3 O.segs.length d3, .slice q3 O.opn.length v3] 26 <| Rc (fun W' => SerIn W' O p3 q3) <| Bz) ?_ (hI := by exact belowAny) (hR := (Bc.mk (by exact blkAny2) <| Bc.mk (by exact blkAny2) <| Rc.mk (by exact b3.below (by first | assumption | exact belowAny)) <| Bc.mk (by exact blkAny2) <| Rc.mk (by exact b5.below (by first | assumption | exact belowAny)) <| Bc.mk (by exact blkAny2) <| Rc.mk (by exact b7.below (by first | assumption | exact belowAny)) <| Bc.mk (by exact blkAny2) <| Rc.mk (by exact h3.below (by exact belowAny)) <| trivial))
    clear b1 b2 b3 b4 b5 b6 b7 hW
    rintro W28 hW z29 ⟨⟨b1, yb1, k1, f1⟩, ⟨b2, yb2, k2, f2⟩, b3, ⟨b4, yb4, k4, f4⟩, b5, ⟨b6, yb6, k6, f6⟩, b7, ⟨b8, yb8, k8, f8⟩, b9, -⟩
    clear h3
    clear c3 c4 c5
    go_wp2
    refine bodyPost_ret (by simp [results, Tryz.results10, go_sem, k1, f1, k2, f2, k4, f4, k6, f6, k8, f8, yb1, yb2, yb4, yb6, yb8]) rfl ⟨rfl, by exact belowAny⟩
  · go_enter Tryz.func10, Tryz.ntmps10
    go_upto_region 1 with (fail)
    refine wp_cutB w (Bc w.heap.size #[.string nm, .int .i64 ep, .int .i64 fl, .int .i64 la, .int .i64 sc, .slice ps ns cs, .slice po no co] 26 <| Bz) ?_
    rintro W1 hW z2 ⟨⟨b1, yb1, k1, f1⟩, -⟩
    go_wp2_with fail
    refine (c1.out _ belowAny).mono ?_
    rintro e w3 ⟨rfl, hb3⟩
    have z4 := hb3.size
    try simp at z4
    clear k1 f1
    refine haveB w w3 (Bc w.heap.size #[.string nm, .int .i64 ep, .int .i64 fl, .int .i64 la, .int .i64 sc, .slice ps ns cs, .slice po no co] 26 <| Bz) ?_
    clear b1 hW
    rintro hW z5 ⟨⟨b1, yb1, k1, f1⟩, -⟩
    clear hb3
    go_upto_region 3 with (fail)
    clear k1 f1
    refine wp_cutB w (Bc w.heap.size #[.string nm, .int .i64 ep, .int .i64 fl, .int .i64 la, .int .i64 sc, .slice ps ns cs, .slice po no co] 26 <| Bz) ?_
    clear b1 hW
    rintro W6 hW z7 ⟨⟨b1, yb1, k1, f1⟩, -⟩
    go_wp2_with fail
    refine (c2.out _ hW).mono ?_
    rintro e w8 ⟨v, rfl, hb8, hO⟩
    have z9 := hb8.size
    try simp at z9
    clear k1 f1
    refine haveB w w8 (Bc w.heap.size #[.string nm, .int .i64 ep, .int .i64 fl, .int .i64 la, .int .i64 sc, .slice ps ns cs, .slice po no co] 26 <| Bz) ?_
    clear b1 hW
    rintro hW z10 ⟨⟨b1, yb1, k1, f1⟩, -⟩
    obtain ⟨pa, qa, ca, va, rfl, hO⟩ := hO
    replace hO := hO.inn
    unfold serA
    clear c2 c1
    go_upto_region 4 with (fail)
    clear k1 f1
    refine wp_cutB w (Bc w.heap.size #[.string nm, .int .i64 ep, .int .i64 fl, .int .i64 la, .int .i64 sc, .slice ps ns cs, .slice po no co] 26 <| Bc w8.heap.size #[.string S.name, .int .i64 S.eps, .int .i64 S.floor, .int .i64 S.last, .int .i64 S.scale, .slice pa S.segs.length ca, .slice qa S.opn.length va] 26 <| Rc (fun W' => SerIn W' S pa qa) <| Bz) ?_ (hI := by exact belowAny) (hR := (Bc.mk (by exact blkAny2) <| Bc.mk (by exact blkAny2) <| Rc.mk (by exact hO.below (by exact belowAny)) <| trivial))
    clear b1 hW
    rintro W11 hW z12 ⟨⟨b1, yb1, k1, f1⟩, ⟨b2, yb2, k2, f2⟩, b3, -⟩
    clear hO
    go_upto_region 6 with (fail)
    clear k1 f1 k2 f2
    refine wp_cutB w (Bc w.heap.size #[.string nm, .int .i64 ep, .int .i64 fl, .int .i64 la, .int .i64 sc, .slice ps ns cs, .slice po no co] 26 <| Bc w8.heap.size #[.string S.name, .int .i64 S.eps, .int .i64 S.floor, .int .i64 S.last, .int .i64 S.scale, .slice pa S.segs.length ca, .slice qa S.opn.length va] 26 <| Rc (fun W' => SerIn W' S pa qa) <| Bz) ?_ (hI := by exact belowAny) (hR := (Bc.mk (by exact blkAny2) <| Bc.mk (by exact blkAny2) <| Rc.mk (by exact b3.below (by first | assumption | exact belowAny)) <| trivial))
    clear b1 b2 b3 hW
    rintro W13 hW z14 ⟨⟨b1, yb1, k1, f1⟩, ⟨b2, yb2, k2, f2⟩, b3, -⟩
    go_wp2_with fail
    refine (c3.out _ pa ca qa va b3).mono ?_
    rintro e w15 ⟨p1, d1, q1, v1, rfl, hb15, h1⟩
    have z16 := hb15.size
    try simp at z16
    clear k1 f1 k2 f2
    refine haveB w w15 (Bc w.heap.size #[.string nm, .int .i64 ep, .int .i64 fl, .int .i64 la, .int .i64 sc, .slice ps ns cs, .slice po no co] 26 <| Bc w8.heap.size #[.string S.name, .int .i64 S.eps, .int .i64 S.floor, .int .i64 S.last, .int .i64 S.scale, .slice pa S.segs.length ca, .slice qa S.opn.length va] 26 <| Rc (fun W' => SerIn W' S pa qa) <| Bz) ?_ (hR := (Bc.mk (by exact blkAny2) <| Bc.mk (by exact blkAny2) <| Rc.mk (by exact b3.below (by first | assumption | exact belowAny)) <| trivial))
    clear b1 b2 b3 hW
    rintro hW z17 ⟨⟨b1, yb1, k1, f1⟩, ⟨b2, yb2, k2, f2⟩, b3, -⟩
    go_upto_region 7 with (fail)
    clear k1 f1 k2 f2
    refine wp_cutB w (Bc w.heap.size #[.string nm, .int .i64 ep, .int .i64 fl, .int .i64 la, .int .i64 sc, .slice ps ns cs, .slice po no co] 26 <| Bc w8.heap.size #[.string S.name, .int .i64 S.eps, .int .i64 S.floor, .int .i64 S.last, .int .i64 S.scale, .slice pa S.segs.length ca, .slice qa S.opn.length va] 26 <| Rc (fun W' => SerIn W' S pa qa) <| Bc w15.heap.size #[.string F.name, .int .i64 F.eps, .int .i64 F.floor, .int .i64 F.last, .int .i64 F.scale, .slice p1 F.segs.length d1, .slice q1 F.opn.length v1] 26 <| Rc (fun W' => SerIn W' F p1 q1) <| Bz) ?_ (hI := by exact belowAny) (hR := (Bc.mk (by exact blkAny2) <| Bc.mk (by exact blkAny2) <| Rc.mk (by exact b3.below (by first | assumption | exact belowAny)) <| Bc.mk (by exact blkAny2) <| Rc.mk (by exact h1.below (by exact belowAny)) <| trivial))
    clear b1 b2 b3 hW
    rintro W18 hW z19 ⟨⟨b1, yb1, k1, f1⟩, ⟨b2, yb2, k2, f2⟩, b3, ⟨b4, yb4, k4, f4⟩, b5, -⟩
    clear h1
    go_wp2_with fail
    refine (c4.out _ p1 d1 q1 v1 b5).mono ?_
    rintro e w20 ⟨p2, d2, q2, v2, rfl, hb20, h2⟩
    have z21 := hb20.size
    try simp at z21
    clear k1 f1 k2 f2 k4 f4
    refine haveB w w20 (Bc w.heap.size #[.string nm, .int .i64 ep, .int .i64 fl, .int .i64 la, .int .i64 sc, .slice ps ns cs, .slice po no co] 26 <| Bc w8.heap.size #[.string S.name, .int .i64 S.eps, .int .i64 S.floor, .int .i64 S.last, .int .i64 S.scale, .slice pa S.segs.length ca, .slice qa S.opn.length va] 26 <| Rc (fun W' => SerIn W' S pa qa) <| Bc w15.heap.size #[.string F.name, .int .i64 F.eps, .int .i64 F.floor, .int .i64 F.last, .int .i64 F.scale, .slice p1 F.segs.length d1, .slice q1 F.opn.length v1] 26 <| Rc (fun W' => SerIn W' F p1 q1) <| Bz) ?_ (hR := (Bc.mk (by exact blkAny2) <| Bc.mk (by exact blkAny2) <| Rc.mk (by exact b3.below (by first | assumption | exact belowAny)) <| Bc.mk (by exact blkAny2) <| Rc.mk (by exact b5.below (by first | assumption | exact belowAny)) <| trivial))
    clear b1 b2 b3 b4 b5 hW
    rintro hW z22 ⟨⟨b1, yb1, k1, f1⟩, ⟨b2, yb2, k2, f2⟩, b3, ⟨b4, yb4, k4, f4⟩, b5, -⟩
    go_upto_region 8 with (fail)
    clear k1 f1 k2 f2 k4 f4
    refine wp_cutB w (Bc w.heap.size #[.string nm, .int .i64 ep, .int .i64 fl, .int .i64 la, .int .i64 sc, .slice ps ns cs, .slice po no co] 26 <| Bc w8.heap.size #[.string S.name, .int .i64 S.eps, .int .i64 S.floor, .int .i64 S.last, .int .i64 S.scale, .slice pa S.segs.length ca, .slice qa S.opn.length va] 26 <| Rc (fun W' => SerIn W' S pa qa) <| Bc w15.heap.size #[.string F.name, .int .i64 F.eps, .int .i64 F.floor, .int .i64 F.last, .int .i64 F.scale, .slice p1 F.segs.length d1, .slice q1 F.opn.length v1] 26 <| Rc (fun W' => SerIn W' F p1 q1) <| Bc w20.heap.size #[.string B.name, .int .i64 B.eps, .int .i64 B.floor, .int .i64 B.last, .int .i64 B.scale, .slice p2 B.segs.length d2, .slice q2 B.opn.length v2] 26 <| Rc (fun W' => SerIn W' B p2 q2) <| Bz) ?_ (hI := by exact belowAny) (hR := (Bc.mk (by exact blkAny2) <| Bc.mk (by exact blkAny2) <| Rc.mk (by exact b3.below (by first | assumption | exact belowAny)) <| Bc.mk (by exact blkAny2) <| Rc.mk (by exact b5.below (by first | assumption | exact belowAny)) <| Bc.mk (by exact blkAny2) <| Rc.mk (by exact h2.below (by exact belowAny)) <| trivial))
    clear b1 b2 b3 b4 b5 hW
    rintro W23 hW z24 ⟨⟨b1, yb1, k1, f1⟩, ⟨b2, yb2, k2, f2⟩, b3, ⟨b4, yb4, k4, f4⟩, b5, ⟨b6, yb6, k6, f6⟩, b7, -⟩
    clear h2
    go_wp2_with fail
    refine (c5.out _ pa ca qa va b3).mono ?_
    rintro e w25 ⟨p3, d3, q3, v3, rfl, hb25, h3⟩
    have z26 := hb25.size
    try simp at z26
    clear k1 f1 k2 f2 k4 f4 k6 f6
    refine haveB w w25 (Bc w.heap.size #[.string nm, .int .i64 ep, .int .i64 fl, .int .i64 la, .int .i64 sc, .slice ps ns cs, .slice po no co] 26 <| Bc w8.heap.size #[.string S.name, .int .i64 S.eps, .int .i64 S.floor, .int .i64 S.last, .int .i64 S.scale, .slice pa S.segs.length ca, .slice qa S.opn.length va] 26 <| Rc (fun W' => SerIn W' S pa qa) <| Bc w15.heap.size #[.string F.name, .int .i64 F.eps, .int .i64 F.floor, .int .i64 F.last, .int .i64 F.scale, .slice p1 F.segs.length d1, .slice q1 F.opn.length v1] 26 <| Rc (fun W' => SerIn W' F p1 q1) <| Bc w20.heap.size #[.string B.name, .int .i64 B.eps, .int .i64 B.floor, .int .i64 B.last, .int .i64 B.scale, .slice p2 B.segs.length d2, .slice q2 B.opn.length v2] 26 <| Rc (fun W' => SerIn W' B p2 q2) <| Bz) ?_ (hR := (Bc.mk (by exact blkAny2) <| Bc.mk (by exact blkAny2) <| Rc.mk (by exact b3.below (by first | assumption | exact belowAny)) <| Bc.mk (by exact blkAny2) <| Rc.mk (by exact b5.below (by first | assumption | exact belowAny)) <| Bc.mk (by exact blkAny2) <| Rc.mk (by exact b7.below (by first | assumption | exact belowAny)) <| trivial))
    clear b1 b2 b3 b4 b5 b6 b7 hW
    rintro hW z27 ⟨⟨b1, yb1, k1, f1⟩, ⟨b2, yb2, k2, f2⟩, b3, ⟨b4, yb4, k4, f4⟩, b5, ⟨b6, yb6, k6, f6⟩, b7, -⟩
    go_upto_region 9 with (fail)
    clear k1 f1 k2 f2 k4 f4 k6 f6
    refine wp_cutB w (Bc w.heap.size #[.string nm, .int .i64 ep, .int .i64 fl, .int .i64 la, .int .i64 sc, .slice ps ns cs, .slice po no co] 26 <| Bc w8.heap.size #[.string S.name, .int .i64 S.eps, .int .i64 S.floor, .int .i64 S.last, .int .i64 S.scale, .slice pa S.segs.length ca, .slice qa S.opn.length va] 26 <| Rc (fun W' => SerIn W' S pa qa) <| Bc w15.heap.size #[.string F.name, .int .i64 F.eps, .int .i64 F.floor, .int .i64 F.last, .int .i64 F.scale, .slice p1 F.segs.length d1, .slice q1 F.opn.length v1] 26 <| Rc (fun W' => SerIn W' F p1 q1) <| Bc w20.heap.size #[.string B.name, .int .i64 B.eps, .int .i64 B.floor, .int .i64 B.last, .int .i64 B.scale, .slice p2 B.segs.length d2, .slice q2 B.opn.length v2] 26 <| Rc (fun W' => SerIn W' B p2 q2) <| Bc w25.heap.size #[.string O.name, .int .i64 O.eps, .int .i64 O.floor, .int .i64 O.last, .int .i64 O.scale, .slice p3 O.segs.length d3, .slice q3 O.opn.length v3] 26 <| Rc (fun W' => SerIn W' O p3 q3) <| Bz) ?_ (hI := by exact belowAny) (hR := (Bc.mk (by exact blkAny2) <| Bc.mk (by exact blkAny2) <| Rc.mk (by exact b3.below (by first | assumption | exact belowAny)) <| Bc.mk (by exact blkAny2) <| Rc.mk (by exact b5.below (by first | assumption | exact belowAny)) <| Bc.mk (by exact blkAny2) <| Rc.mk (by exact b7.below (by first | assumption | exact belowAny)) <| Bc.mk (by exact blkAny2) <| Rc.mk (by exact h3.below (by exact belowAny)) <| trivial))
    clear b1 b2 b3 b4 b5 b6 b7 hW
    rintro W28 hW z29 ⟨⟨b1, yb1, k1, f1⟩, ⟨b2, yb2, k2, f2⟩, b3, ⟨b4, yb4, k4, f4⟩, b5, ⟨b6, yb6, k6, f6⟩, b7, ⟨b8, yb8, k8, f8⟩, b9, -⟩
    clear h3
    clear c3 c4 c5
    go_wp2
    refine bodyPost_ret (by simp [results, Tryz.results10, go_sem, k1, f1, k2, f2, k4, f4, k6, f6, k8, f8, yb1, yb2, yb4, yb6, yb8]) rfl ⟨rfl, by exact belowAny⟩
set_option maxRecDepth 100000 in
set_option maxHeartbeats 2000000 in
theorem floor_w2 (nm : ByteArray) (ep fl la sc : Int) (ps po : Option Addr) (ns cs no co : Nat) (S F B O K : SerT) (a b lo hi E1 E2 E3 E4 : Int) (w : World) (hsw : (¬b < a ∧ a = lo ∧ b = hi) ∨ (b < a ∧ b = lo ∧ a = hi)) (hE1 : E1 = 0) (hE2 : E2 = 2) (hE3 : E3 = 2)
    (c1 : Hid (∀ W, Below w.heap.size w W → Calls Tryz.prog 11 #[] W fun e w' => e = .returned (.bool true) ∧ Below W.heap.size W w'))
    (c2 : Hid (∀ W, Below w.heap.size w W → Calls Tryz.prog 15 #[.agg #[.string nm, .int .i64 ep, .int .i64 fl, .int .i64 la, .int .i64 sc, .slice ps ns cs, .slice po no co]] W fun e w' => ∃ v, e = .returned v ∧ Below W.heap.size W w' ∧ OSer S v w'))
    (c3 : Hid (∀ W p c q d, SerIn W S p q → Calls Tryz.prog 22 #[.agg #[.string S.name, .int .i64 S.eps, .int .i64 S.floor, .int .i64 S.last, .int .i64 S.scale, .slice p S.segs.length c, .slice q S.opn.length d], .int .i64 lo] W fun e w' => ∃ p' c' q' d', e = .returned (.tuple #[.agg #[.string F.name, .int .i64 F.eps, .int .i64 F.floor, .int .i64 F.last, .int .i64 F.scale, .slice p' F.segs.length c', .slice q' F.opn.length d'], .int .i64 E1]) ∧ Below W.heap.size W w' ∧ SerIn w' F p' q'))
    (c4 : Hid (∀ W p c q d, SerIn W F p q → Calls Tryz.prog 22 #[.agg #[.string F.name, .int .i64 F.eps, .int .i64 F.floor, .int .i64 F.last, .int .i64 F.scale, .slice p F.segs.length c, .slice q F.opn.length d], .int .i64 hi] W fun e w' => ∃ p' c' q' d', e = .returned (.tuple #[.agg #[.string B.name, .int .i64 B.eps, .int .i64 B.floor, .int .i64 B.last, .int .i64 B.scale, .slice p' B.segs.length c', .slice q' B.opn.length d'], .int .i64 E2]) ∧ Below W.heap.size W w' ∧ SerIn w' B p' q'))
    (c5 : Hid (∀ W p c q d, SerIn W S p q → Calls Tryz.prog 22 #[.agg #[.string S.name, .int .i64 S.eps, .int .i64 S.floor, .int .i64 S.last, .int .i64 S.scale, .slice p S.segs.length c, .slice q S.opn.length d], .int .i64 hi] W fun e w' => ∃ p' c' q' d', e = .returned (.tuple #[.agg #[.string O.name, .int .i64 O.eps, .int .i64 O.floor, .int .i64 O.last, .int .i64 O.scale, .slice p' O.segs.length c', .slice q' O.opn.length d'], .int .i64 E3]) ∧ Below W.heap.size W w' ∧ SerIn w' O p' q')) :
    Calls Tryz.prog 10 #[.agg #[.string nm, .int .i64 ep, .int .i64 fl, .int .i64 la, .int .i64 sc, .slice ps ns cs, .slice po no co], .int .i64 a, .int .i64 b] w fun e w' => e = .returned (.bool true) ∧ Below w.heap.size w w' := by
  rcases hsw with ⟨hab, rfl, rfl⟩ | ⟨hab, rfl, rfl⟩
  · subst hE1
    subst hE2
    subst hE3
    go_enter Tryz.func10, Tryz.ntmps10
    go_upto_region 1 with (fail)
    refine wp_cutB w (Bc w.heap.size #[.string nm, .int .i64 ep, .int .i64 fl, .int .i64 la, .int .i64 sc, .slice ps ns cs, .slice po no co] 26 <| Bz) ?_
    rintro W1 hW z2 ⟨⟨b1, yb1, k1, f1⟩, -⟩
    go_wp2_with fail
    refine (c1.out _ belowAny).mono ?_
    rintro e w3 ⟨rfl, hb3⟩
    have z4 := hb3.size
    try simp at z4
    clear k1 f1
    refine haveB w w3 (Bc w.heap.size #[.string nm, .int .i64 ep, .int .i64 fl, .int .i64 la, .int .i64 sc, .slice ps ns cs, .slice po no co] 26 <| Bz) ?_
    clear b1 hW
    rintro hW z5 ⟨⟨b1, yb1, k1, f1⟩, -⟩
    clear hb3
    go_upto_region 3 with (fail)
    clear k1 f1
    refine wp_cutB w (Bc w.heap.size #[.string nm, .int .i64 ep, .int .i64 fl, .int .i64 la, .int .i64 sc, .slice ps ns cs, .slice po no co] 26 <| Bz) ?_
    clear b1 hW
    rintro W6 hW z7 ⟨⟨b1, yb1, k1, f1⟩, -⟩
    go_wp2_with fail
    refine (c2.out _ hW).mono ?_
    rintro e w8 ⟨v, rfl, hb8, hO⟩
    have z9 := hb8.size
    try simp at z9
    clear k1 f1
    refine haveB w w8 (Bc w.heap.size #[.string nm, .int .i64 ep, .int .i64 fl, .int .i64 la, .int .i64 sc, .slice ps ns cs, .slice po no co] 26 <| Bz) ?_
    clear b1 hW
    rintro hW z10 ⟨⟨b1, yb1, k1, f1⟩, -⟩
    obtain ⟨pa, qa, ca, va, rfl, hO⟩ := hO
    replace hO := hO.inn
    unfold serA
    clear c2 c1
    go_upto_region 4 with (fail)
    clear k1 f1
    refine wp_cutB w (Bc w.heap.size #[.string nm, .int .i64 ep, .int .i64 fl, .int .i64 la, .int .i64 sc, .slice ps ns cs, .slice po no co] 26 <| Bc w8.heap.size #[.string S.name, .int .i64 S.eps, .int .i64 S.floor, .int .i64 S.last, .int .i64 S.scale, .slice pa S.segs.length ca, .slice qa S.opn.length va] 26 <| Rc (fun W' => SerIn W' S pa qa) <| Bz) ?_ (hI := by exact belowAny) (hR := (Bc.mk (by exact blkAny2) <| Bc.mk (by exact blkAny2) <| Rc.mk (by exact hO.below (by exact belowAny)) <| trivial))
    clear b1 hW
    rintro W11 hW z12 ⟨⟨b1, yb1, k1, f1⟩, ⟨b2, yb2, k2, f2⟩, b3, -⟩
    clear hO
    go_upto_region 6 with (fail)
    clear k1 f1 k2 f2
    refine wp_cutB w (Bc w.heap.size #[.string nm, .int .i64 ep, .int .i64 fl, .int .i64 la, .int .i64 sc, .slice ps ns cs, .slice po no co] 26 <| Bc w8.heap.size #[.string S.name, .int .i64 S.eps, .int .i64 S.floor, .int .i64 S.last, .int .i64 S.scale, .slice pa S.segs.length ca, .slice qa S.opn.length va] 26 <| Rc (fun W' => SerIn W' S pa qa) <| Bz) ?_ (hI := by exact belowAny) (hR := (Bc.mk (by exact blkAny2) <| Bc.mk (by exact blkAny2) <| Rc.mk (by exact b3.below (by first | assumption | exact belowAny)) <| trivial))
    clear b1 b2 b3 hW
    rintro W13 hW z14 ⟨⟨b1, yb1, k1, f1⟩, ⟨b2, yb2, k2, f2⟩, b3, -⟩
    go_wp2_with fail
    refine (c3.out _ pa ca qa va b3).mono ?_
    rintro e w15 ⟨p1, d1, q1, v1, rfl, hb15, h1⟩
    have z16 := hb15.size
    try simp at z16
    clear k1 f1 k2 f2
    refine haveB w w15 (Bc w.heap.size #[.string nm, .int .i64 ep, .int .i64 fl, .int .i64 la, .int .i64 sc, .slice ps ns cs, .slice po no co] 26 <| Bc w8.heap.size #[.string S.name, .int .i64 S.eps, .int .i64 S.floor, .int .i64 S.last, .int .i64 S.scale, .slice pa S.segs.length ca, .slice qa S.opn.length va] 26 <| Rc (fun W' => SerIn W' S pa qa) <| Bz) ?_ (hR := (Bc.mk (by exact blkAny2) <| Bc.mk (by exact blkAny2) <| Rc.mk (by exact b3.below (by first | assumption | exact belowAny)) <| trivial))
    clear b1 b2 b3 hW
    rintro hW z17 ⟨⟨b1, yb1, k1, f1⟩, ⟨b2, yb2, k2, f2⟩, b3, -⟩
    go_upto_region 7 with (fail)
    clear k1 f1 k2 f2
    refine wp_cutB w (Bc w.heap.size #[.string nm, .int .i64 ep, .int .i64 fl, .int .i64 la, .int .i64 sc, .slice ps ns cs, .slice po no co] 26 <| Bc w8.heap.size #[.string S.name, .int .i64 S.eps, .int .i64 S.floor, .int .i64 S.last, .int .i64 S.scale, .slice pa S.segs.length ca, .slice qa S.opn.length va] 26 <| Rc (fun W' => SerIn W' S pa qa) <| Bc w15.heap.size #[.string F.name, .int .i64 F.eps, .int .i64 F.floor, .int .i64 F.last, .int .i64 F.scale, .slice p1 F.segs.length d1, .slice q1 F.opn.length v1] 26 <| Rc (fun W' => SerIn W' F p1 q1) <| Bz) ?_ (hI := by exact belowAny) (hR := (Bc.mk (by exact blkAny2) <| Bc.mk (by exact blkAny2) <| Rc.mk (by exact b3.below (by first | assumption | exact belowAny)) <| Bc.mk (by exact blkAny2) <| Rc.mk (by exact h1.below (by exact belowAny)) <| trivial))
    clear b1 b2 b3 hW
    rintro W18 hW z19 ⟨⟨b1, yb1, k1, f1⟩, ⟨b2, yb2, k2, f2⟩, b3, ⟨b4, yb4, k4, f4⟩, b5, -⟩
    clear h1
    go_wp2_with fail
    refine (c4.out _ p1 d1 q1 v1 b5).mono ?_
    rintro e w20 ⟨p2, d2, q2, v2, rfl, hb20, h2⟩
    have z21 := hb20.size
    try simp at z21
    clear k1 f1 k2 f2 k4 f4
    refine haveB w w20 (Bc w.heap.size #[.string nm, .int .i64 ep, .int .i64 fl, .int .i64 la, .int .i64 sc, .slice ps ns cs, .slice po no co] 26 <| Bc w8.heap.size #[.string S.name, .int .i64 S.eps, .int .i64 S.floor, .int .i64 S.last, .int .i64 S.scale, .slice pa S.segs.length ca, .slice qa S.opn.length va] 26 <| Rc (fun W' => SerIn W' S pa qa) <| Bc w15.heap.size #[.string F.name, .int .i64 F.eps, .int .i64 F.floor, .int .i64 F.last, .int .i64 F.scale, .slice p1 F.segs.length d1, .slice q1 F.opn.length v1] 26 <| Rc (fun W' => SerIn W' F p1 q1) <| Bz) ?_ (hR := (Bc.mk (by exact blkAny2) <| Bc.mk (by exact blkAny2) <| Rc.mk (by exact b3.below (by first | assumption | exact belowAny)) <| Bc.mk (by exact blkAny2) <| Rc.mk (by exact b5.below (by first | assumption | exact belowAny)) <| trivial))
    clear b1 b2 b3 b4 b5 hW
    rintro hW z22 ⟨⟨b1, yb1, k1, f1⟩, ⟨b2, yb2, k2, f2⟩, b3, ⟨b4, yb4, k4, f4⟩, b5, -⟩
    go_upto_region 8 with (fail)
    clear k1 f1 k2 f2 k4 f4
    refine wp_cutB w (Bc w.heap.size #[.string nm, .int .i64 ep, .int .i64 fl, .int .i64 la, .int .i64 sc, .slice ps ns cs, .slice po no co] 26 <| Bc w8.heap.size #[.string S.name, .int .i64 S.eps, .int .i64 S.floor, .int .i64 S.last, .int .i64 S.scale, .slice pa S.segs.length ca, .slice qa S.opn.length va] 26 <| Rc (fun W' => SerIn W' S pa qa) <| Bc w15.heap.size #[.string F.name, .int .i64 F.eps, .int .i64 F.floor, .int .i64 F.last, .int .i64 F.scale, .slice p1 F.segs.length d1, .slice q1 F.opn.length v1] 26 <| Rc (fun W' => SerIn W' F p1 q1) <| Bc w20.heap.size #[.string B.name, .int .i64 B.eps, .int .i64 B.floor, .int .i64 B.last, .int .i64 B.scale, .slice p2 B.segs.length d2, .slice q2 B.opn.length v2] 26 <| Rc (fun W' => SerIn W' B p2 q2) <| Bz) ?_ (hI := by exact belowAny) (hR := (Bc.mk (by exact blkAny2) <| Bc.mk (by exact blkAny2) <| Rc.mk (by exact b3.below (by first | assumption | exact belowAny)) <| Bc.mk (by exact blkAny2) <| Rc.mk (by exact b5.below (by first | assumption | exact belowAny)) <| Bc.mk (by exact blkAny2) <| Rc.mk (by exact h2.below (by exact belowAny)) <| trivial))
    clear b1 b2 b3 b4 b5 hW
    rintro W23 hW z24 ⟨⟨b1, yb1, k1, f1⟩, ⟨b2, yb2, k2, f2⟩, b3, ⟨b4, yb4, k4, f4⟩, b5, ⟨b6, yb6, k6, f6⟩, b7, -⟩
    clear h2
    go_wp2_with fail
    refine (c5.out _ pa ca qa va b3).mono ?_
    rintro e w25 ⟨p3, d3, q3, v3, rfl, hb25, h3⟩
    have z26 := hb25.size
    try simp at z26
    clear k1 f1 k2 f2 k4 f4 k6 f6
    refine haveB w w25 (Bc w.heap.size #[.string nm, .int .i64 ep, .int .i64 fl, .int .i64 la, .int .i64 sc, .slice ps ns cs, .slice po no co] 26 <| Bc w8.heap.size #[.string S.name, .int .i64 S.eps, .int .i64 S.floor, .int .i64 S.last, .int .i64 S.scale, .slice pa S.segs.length ca, .slice qa S.opn.length va] 26 <| Rc (fun W' => SerIn W' S pa qa) <| Bc w15.heap.size #[.string F.name, .int .i64 F.eps, .int .i64 F.floor, .int .i64 F.last, .int .i64 F.scale, .slice p1 F.segs.length d1, .slice q1 F.opn.length v1] 26 <| Rc (fun W' => SerIn W' F p1 q1) <| Bc w20.heap.size #[.string B.name, .int .i64 B.eps, .int .i64 B.floor, .int .i64 B.last, .int .i64 B.scale, .slice p2 B.segs.length d2, .slice q2 B.opn.length v2] 26 <| Rc (fun W' => SerIn W' B p2 q2) <| Bz) ?_ (hR := (Bc.mk (by exact blkAny2) <| Bc.mk (by exact blkAny2) <| Rc.mk (by exact b3.below (by first | assumption | exact belowAny)) <| Bc.mk (by exact blkAny2) <| Rc.mk (by exact b5.below (by first | assumption | exact belowAny)) <| Bc.mk (by exact blkAny2) <| Rc.mk (by exact b7.below (by first | assumption | exact belowAny)) <| trivial))
    clear b1 b2 b3 b4 b5 b6 b7 hW
    rintro hW z27 ⟨⟨b1, yb1, k1, f1⟩, ⟨b2, yb2, k2, f2⟩, b3, ⟨b4, yb4, k4, f4⟩, b5, ⟨b6, yb6, k6, f6⟩, b7, -⟩
    go_upto_region 9 with (fail)
    clear k1 f1 k2 f2 k4 f4 k6 f6
    refine wp_cutB w (Bc w.heap.size #[.string nm, .int .i64 ep, .int .i64 fl, .int .i64 la, .int .i64 sc, .slice ps ns cs, .slice po no co] 26 <| Bc w8.heap.size #[.string S.name, .int .i64 S.eps, .int .i64 S.floor, .int .i64 S.last, .int .i64 S.scale, .slice pa S.segs.length ca, .slice qa S.opn.length va] 26 <| Rc (fun W' => SerIn W' S pa qa) <| Bc w15.heap.size #[.string F.name, .int .i64 F.eps, .int .i64 F.floor, .int .i64 F.last, .int .i64 F.scale, .slice p1 F.segs.length d1, .slice q1 F.opn.length v1] 26 <| Rc (fun W' => SerIn W' F p1 q1) <| Bc w20.heap.size #[.string B.name, .int .i64 B.eps, .int .i64 B.floor, .int .i64 B.last, .int .i64 B.scale, .slice p2 B.segs.length d2, .slice q2 B.opn.length v2] 26 <| Rc (fun W' => SerIn W' B p2 q2) <| Bc w25.heap.size #[.string O.name, .int .i64 O.eps, .int .i64 O.floor, .int .i64 O.last, .int .i64 O.scale, .slice p3 O.segs.length d3, .slice q3 O.opn.length v3] 26 <| Rc (fun W' => SerIn W' O p3 q3) <| Bz) ?_ (hI := by exact belowAny) (hR := (Bc.mk (by exact blkAny2) <| Bc.mk (by exact blkAny2) <| Rc.mk (by exact b3.below (by first | assumption | exact belowAny)) <| Bc.mk (by exact blkAny2) <| Rc.mk (by exact b5.below (by first | assumption | exact belowAny)) <| Bc.mk (by exact blkAny2) <| Rc.mk (by exact b7.below (by first | assumption | exact belowAny)) <| Bc.mk (by exact blkAny2) <| Rc.mk (by exact h3.below (by exact belowAny)) <| trivial))
    clear b1 b2 b3 b4 b5 b6 b7 hW
    rintro W28 hW z29 ⟨⟨b1, yb1, k1, f1⟩, ⟨b2, yb2, k2, f2⟩, b3, ⟨b4, yb4, k4, f4⟩, b5, ⟨b6, yb6, k6, f6⟩, b7, ⟨b8, yb8, k8, f8⟩, b9, -⟩
    clear h3
    clear c3 c4 c5
    go_wp2
    refine bodyPost_ret (by simp [results, Tryz.results10, go_sem, k1, f1, k2, f2, k4, f4, k6, f6, k8, f8, yb1, yb2, yb4, yb6, yb8]) rfl ⟨rfl, by exact belowAny⟩
  · subst hE1
    subst hE2
    subst hE3
    go_enter Tryz.func10, Tryz.ntmps10
    go_upto_region 1 with (fail)
    refine wp_cutB w (Bc w.heap.size #[.string nm, .int .i64 ep, .int .i64 fl, .int .i64 la, .int .i64 sc, .slice ps ns cs, .slice po no co] 26 <| Bz) ?_
    rintro W1 hW z2 ⟨⟨b1, yb1, k1, f1⟩, -⟩
    go_wp2_with fail
    refine (c1.out _ belowAny).mono ?_
    rintro e w3 ⟨rfl, hb3⟩
    have z4 := hb3.size
    try simp at z4
    clear k1 f1
    refine haveB w w3 (Bc w.heap.size #[.string nm, .int .i64 ep, .int .i64 fl, .int .i64 la, .int .i64 sc, .slice ps ns cs, .slice po no co] 26 <| Bz) ?_
    clear b1 hW
    rintro hW z5 ⟨⟨b1, yb1, k1, f1⟩, -⟩
    clear hb3
    go_upto_region 3 with (fail)
    clear k1 f1
    refine wp_cutB w (Bc w.heap.size #[.string nm, .int .i64 ep, .int .i64 fl, .int .i64 la, .int .i64 sc, .slice ps ns cs, .slice po no co] 26 <| Bz) ?_
    clear b1 hW
    rintro W6 hW z7 ⟨⟨b1, yb1, k1, f1⟩, -⟩
    go_wp2_with fail
    refine (c2.out _ hW).mono ?_
    rintro e w8 ⟨v, rfl, hb8, hO⟩
    have z9 := hb8.size
    try simp at z9
    clear k1 f1
    refine haveB w w8 (Bc w.heap.size #[.string nm, .int .i64 ep, .int .i64 fl, .int .i64 la, .int .i64 sc, .slice ps ns cs, .slice po no co] 26 <| Bz) ?_
    clear b1 hW
    rintro hW z10 ⟨⟨b1, yb1, k1, f1⟩, -⟩
    obtain ⟨pa, qa, ca, va, rfl, hO⟩ := hO
    replace hO := hO.inn
    unfold serA
    clear c2 c1
    go_upto_region 4 with (fail)
    clear k1 f1
    refine wp_cutB w (Bc w.heap.size #[.string nm, .int .i64 ep, .int .i64 fl, .int .i64 la, .int .i64 sc, .slice ps ns cs, .slice po no co] 26 <| Bc w8.heap.size #[.string S.name, .int .i64 S.eps, .int .i64 S.floor, .int .i64 S.last, .int .i64 S.scale, .slice pa S.segs.length ca, .slice qa S.opn.length va] 26 <| Rc (fun W' => SerIn W' S pa qa) <| Bz) ?_ (hI := by exact belowAny) (hR := (Bc.mk (by exact blkAny2) <| Bc.mk (by exact blkAny2) <| Rc.mk (by exact hO.below (by exact belowAny)) <| trivial))
    clear b1 hW
    rintro W11 hW z12 ⟨⟨b1, yb1, k1, f1⟩, ⟨b2, yb2, k2, f2⟩, b3, -⟩
    clear hO
    go_upto_region 6 with (fail)
    clear k1 f1 k2 f2
    refine wp_cutB w (Bc w.heap.size #[.string nm, .int .i64 ep, .int .i64 fl, .int .i64 la, .int .i64 sc, .slice ps ns cs, .slice po no co] 26 <| Bc w8.heap.size #[.string S.name, .int .i64 S.eps, .int .i64 S.floor, .int .i64 S.last, .int .i64 S.scale, .slice pa S.segs.length ca, .slice qa S.opn.length va] 26 <| Rc (fun W' => SerIn W' S pa qa) <| Bz) ?_ (hI := by exact belowAny) (hR := (Bc.mk (by exact blkAny2) <| Bc.mk (by exact blkAny2) <| Rc.mk (by exact b3.below (by first | assumption | exact belowAny)) <| trivial))
    clear b1 b2 b3 hW
    rintro W13 hW z14 ⟨⟨b1, yb1, k1, f1⟩, ⟨b2, yb2, k2, f2⟩, b3, -⟩
    go_wp2_with fail
    refine (c3.out _ pa ca qa va b3).mono ?_
    rintro e w15 ⟨p1, d1, q1, v1, rfl, hb15, h1⟩
    have z16 := hb15.size
    try simp at z16
    clear k1 f1 k2 f2
    refine haveB w w15 (Bc w.heap.size #[.string nm, .int .i64 ep, .int .i64 fl, .int .i64 la, .int .i64 sc, .slice ps ns cs, .slice po no co] 26 <| Bc w8.heap.size #[.string S.name, .int .i64 S.eps, .int .i64 S.floor, .int .i64 S.last, .int .i64 S.scale, .slice pa S.segs.length ca, .slice qa S.opn.length va] 26 <| Rc (fun W' => SerIn W' S pa qa) <| Bz) ?_ (hR := (Bc.mk (by exact blkAny2) <| Bc.mk (by exact blkAny2) <| Rc.mk (by exact b3.below (by first | assumption | exact belowAny)) <| trivial))
    clear b1 b2 b3 hW
    rintro hW z17 ⟨⟨b1, yb1, k1, f1⟩, ⟨b2, yb2, k2, f2⟩, b3, -⟩
    go_upto_region 7 with (fail)
    clear k1 f1 k2 f2
    refine wp_cutB w (Bc w.heap.size #[.string nm, .int .i64 ep, .int .i64 fl, .int .i64 la, .int .i64 sc, .slice ps ns cs, .slice po no co] 26 <| Bc w8.heap.size #[.string S.name, .int .i64 S.eps, .int .i64 S.floor, .int .i64 S.last, .int .i64 S.scale, .slice pa S.segs.length ca, .slice qa S.opn.length va] 26 <| Rc (fun W' => SerIn W' S pa qa) <| Bc w15.heap.size #[.string F.name, .int .i64 F.eps, .int .i64 F.floor, .int .i64 F.last, .int .i64 F.scale, .slice p1 F.segs.length d1, .slice q1 F.opn.length v1] 26 <| Rc (fun W' => SerIn W' F p1 q1) <| Bz) ?_ (hI := by exact belowAny) (hR := (Bc.mk (by exact blkAny2) <| Bc.mk (by exact blkAny2) <| Rc.mk (by exact b3.below (by first | assumption | exact belowAny)) <| Bc.mk (by exact blkAny2) <| Rc.mk (by exact h1.below (by exact belowAny)) <| trivial))
    clear b1 b2 b3 hW
    rintro W18 hW z19 ⟨⟨b1, yb1, k1, f1⟩, ⟨b2, yb2, k2, f2⟩, b3, ⟨b4, yb4, k4, f4⟩, b5, -⟩
    clear h1
    go_wp2_with fail
    refine (c4.out _ p1 d1 q1 v1 b5).mono ?_
    rintro e w20 ⟨p2, d2, q2, v2, rfl, hb20, h2⟩
    have z21 := hb20.size
    try simp at z21
    clear k1 f1 k2 f2 k4 f4
    refine haveB w w20 (Bc w.heap.size #[.string nm, .int .i64 ep, .int .i64 fl, .int .i64 la, .int .i64 sc, .slice ps ns cs, .slice po no co] 26 <| Bc w8.heap.size #[.string S.name, .int .i64 S.eps, .int .i64 S.floor, .int .i64 S.last, .int .i64 S.scale, .slice pa S.segs.length ca, .slice qa S.opn.length va] 26 <| Rc (fun W' => SerIn W' S pa qa) <| Bc w15.heap.size #[.string F.name, .int .i64 F.eps, .int .i64 F.floor, .int .i64 F.last, .int .i64 F.scale, .slice p1 F.segs.length d1, .slice q1 F.opn.length v1] 26 <| Rc (fun W' => SerIn W' F p1 q1) <| Bz) ?_ (hR := (Bc.mk (by exact blkAny2) <| Bc.mk (by exact blkAny2) <| Rc.mk (by exact b3.below (by first | assumption | exact belowAny)) <| Bc.mk (by exact blkAny2) <| Rc.mk (by exact b5.below (by first | assumption | exact belowAny)) <| trivial))
    clear b1 b2 b3 b4 b5 hW
    rintro hW z22 ⟨⟨b1, yb1, k1, f1⟩, ⟨b2, yb2, k2, f2⟩, b3, ⟨b4, yb4, k4, f4⟩, b5, -⟩
    go_upto_region 8 with (fail)
    clear k1 f1 k2 f2 k4 f4
    refine wp_cutB w (Bc w.heap.size #[.string nm, .int .i64 ep, .int .i64 fl, .int .i64 la, .int .i64 sc, .slice ps ns cs, .slice po no co] 26 <| Bc w8.heap.size #[.string S.name, .int .i64 S.eps, .int .i64 S.floor, .int .i64 S.last, .int .i64 S.scale, .slice pa S.segs.length ca, .slice qa S.opn.length va] 26 <| Rc (fun W' => SerIn W' S pa qa) <| Bc w15.heap.size #[.string F.name, .int .i64 F.eps, .int .i64 F.floor, .int .i64 F.last, .int .i64 F.scale, .slice p1 F.segs.length d1, .slice q1 F.opn.length v1] 26 <| Rc (fun W' => SerIn W' F p1 q1) <| Bc w20.heap.size #[.string B.name, .int .i64 B.eps, .int .i64 B.floor, .int .i64 B.last, .int .i64 B.scale, .slice p2 B.segs.length d2, .slice q2 B.opn.length v2] 26 <| Rc (fun W' => SerIn W' B p2 q2) <| Bz) ?_ (hI := by exact belowAny) (hR := (Bc.mk (by exact blkAny2) <| Bc.mk (by exact blkAny2) <| Rc.mk (by exact b3.below (by first | assumption | exact belowAny)) <| Bc.mk (by exact blkAny2) <| Rc.mk (by exact b5.below (by first | assumption | exact belowAny)) <| Bc.mk (by exact blkAny2) <| Rc.mk (by exact h2.below (by exact belowAny)) <| trivial))
    clear b1 b2 b3 b4 b5 hW
    rintro W23 hW z24 ⟨⟨b1, yb1, k1, f1⟩, ⟨b2, yb2, k2, f2⟩, b3, ⟨b4, yb4, k4, f4⟩, b5, ⟨b6, yb6, k6, f6⟩, b7, -⟩
    clear h2
    go_wp2_with fail
    refine (c5.out _ pa ca qa va b3).mono ?_
    rintro e w25 ⟨p3, d3, q3, v3, rfl, hb25, h3⟩
    have z26 := hb25.size
    try simp at z26
    clear k1 f1 k2 f2 k4 f4 k6 f6
    refine haveB w w25 (Bc w.heap.size #[.string nm, .int .i64 ep, .int .i64 fl, .int .i64 la, .int .i64 sc, .slice ps ns cs, .slice po no co] 26 <| Bc w8.heap.size #[.string S.name, .int .i64 S.eps, .int .i64 S.floor, .int .i64 S.last, .int .i64 S.scale, .slice pa S.segs.length ca, .slice qa S.opn.length va] 26 <| Rc (fun W' => SerIn W' S pa qa) <| Bc w15.heap.size #[.string F.name, .int .i64 F.eps, .int .i64 F.floor, .int .i64 F.last, .int .i64 F.scale, .slice p1 F.segs.length d1, .slice q1 F.opn.length v1] 26 <| Rc (fun W' => SerIn W' F p1 q1) <| Bc w20.heap.size #[.string B.name, .int .i64 B.eps, .int .i64 B.floor, .int .i64 B.last, .int .i64 B.scale, .slice p2 B.segs.length d2, .slice q2 B.opn.length v2] 26 <| Rc (fun W' => SerIn W' B p2 q2) <| Bz) ?_ (hR := (Bc.mk (by exact blkAny2) <| Bc.mk (by exact blkAny2) <| Rc.mk (by exact b3.below (by first | assumption | exact belowAny)) <| Bc.mk (by exact blkAny2) <| Rc.mk (by exact b5.below (by first | assumption | exact belowAny)) <| Bc.mk (by exact blkAny2) <| Rc.mk (by exact b7.below (by first | assumption | exact belowAny)) <| trivial))
    clear b1 b2 b3 b4 b5 b6 b7 hW
    rintro hW z27 ⟨⟨b1, yb1, k1, f1⟩, ⟨b2, yb2, k2, f2⟩, b3, ⟨b4, yb4, k4, f4⟩, b5, ⟨b6, yb6, k6, f6⟩, b7, -⟩
    go_upto_region 9 with (fail)
    clear k1 f1 k2 f2 k4 f4 k6 f6
    refine wp_cutB w (Bc w.heap.size #[.string nm, .int .i64 ep, .int .i64 fl, .int .i64 la, .int .i64 sc, .slice ps ns cs, .slice po no co] 26 <| Bc w8.heap.size #[.string S.name, .int .i64 S.eps, .int .i64 S.floor, .int .i64 S.last, .int .i64 S.scale, .slice pa S.segs.length ca, .slice qa S.opn.length va] 26 <| Rc (fun W' => SerIn W' S pa qa) <| Bc w15.heap.size #[.string F.name, .int .i64 F.eps, .int .i64 F.floor, .int .i64 F.last, .int .i64 F.scale, .slice p1 F.segs.length d1, .slice q1 F.opn.length v1] 26 <| Rc (fun W' => SerIn W' F p1 q1) <| Bc w20.heap.size #[.string B.name, .int .i64 B.eps, .int .i64 B.floor, .int .i64 B.last, .int .i64 B.scale, .slice p2 B.segs.length d2, .slice q2 B.opn.length v2] 26 <| Rc (fun W' => SerIn W' B p2 q2) <| Bc w25.heap.size #[.string O.name, .int .i64 O.eps, .int .i64 O.floor, .int .i64 O.last, .int .i64 O.scale, .slice p3 O.segs.length d3, .slice q3 O.opn.length v3] 26 <| Rc (fun W' => SerIn W' O p3 q3) <| Bz) ?_ (hI := by exact belowAny) (hR := (Bc.mk (by exact blkAny2) <| Bc.mk (by exact blkAny2) <| Rc.mk (by exact b3.below (by first | assumption | exact belowAny)) <| Bc.mk (by exact blkAny2) <| Rc.mk (by exact b5.below (by first | assumption | exact belowAny)) <| Bc.mk (by exact blkAny2) <| Rc.mk (by exact b7.below (by first | assumption | exact belowAny)) <| Bc.mk (by exact blkAny2) <| Rc.mk (by exact h3.below (by exact belowAny)) <| trivial))
    clear b1 b2 b3 b4 b5 b6 b7 hW
    rintro W28 hW z29 ⟨⟨b1, yb1, k1, f1⟩, ⟨b2, yb2, k2, f2⟩, b3, ⟨b4, yb4, k4, f4⟩, b5, ⟨b6, yb6, k6, f6⟩, b7, ⟨b8, yb8, k8, f8⟩, b9, -⟩
    clear h3
    clear c3 c4 c5
    go_wp2
    refine bodyPost_ret (by simp [results, Tryz.results10, go_sem, k1, f1, k2, f2, k4, f4, k6, f6, k8, f8, yb1, yb2, yb4, yb6, yb8]) rfl ⟨rfl, by exact belowAny⟩
set_option maxRecDepth 100000 in
set_option maxHeartbeats 2000000 in
theorem floor_w3 (nm : ByteArray) (ep fl la sc : Int) (ps po : Option Addr) (ns cs no co : Nat) (S F B O K : SerT) (a b lo hi E1 E2 E3 E4 : Int) (w : World) (hsw : (¬b < a ∧ a = lo ∧ b = hi) ∨ (b < a ∧ b = lo ∧ a = hi)) (hE1 : E1 = 0) (hE2 : E2 = 0) (hE3 : E3 = 0) (hE4 : E4 = 343) (hlt : lo < hi) (hne : (lo == hi) = false)
    (c1 : Hid (∀ W, Below w.heap.size w W → Calls Tryz.prog 11 #[] W fun e w' => e = .returned (.bool true) ∧ Below W.heap.size W w'))
    (c2 : Hid (∀ W, Below w.heap.size w W → Calls Tryz.prog 15 #[.agg #[.string nm, .int .i64 ep, .int .i64 fl, .int .i64 la, .int .i64 sc, .slice ps ns cs, .slice po no co]] W fun e w' => ∃ v, e = .returned v ∧ Below W.heap.size W w' ∧ OSer S v w'))
    (c3 : Hid (∀ W p c q d, SerIn W S p q → Calls Tryz.prog 22 #[.agg #[.string S.name, .int .i64 S.eps, .int .i64 S.floor, .int .i64 S.last, .int .i64 S.scale, .slice p S.segs.length c, .slice q S.opn.length d], .int .i64 lo] W fun e w' => ∃ p' c' q' d', e = .returned (.tuple #[.agg #[.string F.name, .int .i64 F.eps, .int .i64 F.floor, .int .i64 F.last, .int .i64 F.scale, .slice p' F.segs.length c', .slice q' F.opn.length d'], .int .i64 E1]) ∧ Below W.heap.size W w' ∧ SerIn w' F p' q'))
    (c4 : Hid (∀ W p c q d, SerIn W F p q → Calls Tryz.prog 22 #[.agg #[.string F.name, .int .i64 F.eps, .int .i64 F.floor, .int .i64 F.last, .int .i64 F.scale, .slice p F.segs.length c, .slice q F.opn.length d], .int .i64 hi] W fun e w' => ∃ p' c' q' d', e = .returned (.tuple #[.agg #[.string B.name, .int .i64 B.eps, .int .i64 B.floor, .int .i64 B.last, .int .i64 B.scale, .slice p' B.segs.length c', .slice q' B.opn.length d'], .int .i64 E2]) ∧ Below W.heap.size W w' ∧ SerIn w' B p' q'))
    (c5 : Hid (∀ W p c q d, SerIn W S p q → Calls Tryz.prog 22 #[.agg #[.string S.name, .int .i64 S.eps, .int .i64 S.floor, .int .i64 S.last, .int .i64 S.scale, .slice p S.segs.length c, .slice q S.opn.length d], .int .i64 hi] W fun e w' => ∃ p' c' q' d', e = .returned (.tuple #[.agg #[.string O.name, .int .i64 O.eps, .int .i64 O.floor, .int .i64 O.last, .int .i64 O.scale, .slice p' O.segs.length c', .slice q' O.opn.length d'], .int .i64 E3]) ∧ Below W.heap.size W w' ∧ SerIn w' O p' q'))
    (c6 : Hid (∀ W p c q d, SerIn W O p q → Calls Tryz.prog 22 #[.agg #[.string O.name, .int .i64 O.eps, .int .i64 O.floor, .int .i64 O.last, .int .i64 O.scale, .slice p O.segs.length c, .slice q O.opn.length d], .int .i64 lo] W fun e w' => ∃ p' c' q' d', e = .returned (.tuple #[.agg #[.string K.name, .int .i64 K.eps, .int .i64 K.floor, .int .i64 K.last, .int .i64 K.scale, .slice p' K.segs.length c', .slice q' K.opn.length d'], .int .i64 E4]) ∧ Below W.heap.size W w' ∧ SerIn w' K p' q'))
    (c7 : Hid (∀ W p c q d p' c' q' d', SerIn W B p q → SerIn W O p' q' → Calls Tryz.prog 35 #[.agg #[.string B.name, .int .i64 B.eps, .int .i64 B.floor, .int .i64 B.last, .int .i64 B.scale, .slice p B.segs.length c, .slice q B.opn.length d], .agg #[.string O.name, .int .i64 O.eps, .int .i64 O.floor, .int .i64 O.last, .int .i64 O.scale, .slice p' O.segs.length c', .slice q' O.opn.length d']] W fun e w' => e = .returned (.bool true) ∧ Below W.heap.size W w')) :
    Calls Tryz.prog 10 #[.agg #[.string nm, .int .i64 ep, .int .i64 fl, .int .i64 la, .int .i64 sc, .slice ps ns cs, .slice po no co], .int .i64 a, .int .i64 b] w fun e w' => e = .returned (.bool true) ∧ Below w.heap.size w w' := by
  rcases hsw with ⟨hab, rfl, rfl⟩ | ⟨hab, rfl, rfl⟩
  · subst hE1
    subst hE2
    subst hE3
    subst hE4
    go_enter Tryz.func10, Tryz.ntmps10
    go_upto_region 1 with (fail)
    refine wp_cutB w (Bc w.heap.size #[.string nm, .int .i64 ep, .int .i64 fl, .int .i64 la, .int .i64 sc, .slice ps ns cs, .slice po no co] 26 <| Bz) ?_
    rintro W1 hW z2 ⟨⟨b1, yb1, k1, f1⟩, -⟩
    go_wp2_with fail
    refine (c1.out _ belowAny).mono ?_
    rintro e w3 ⟨rfl, hb3⟩
    have z4 := hb3.size
    try simp at z4
    clear k1 f1
    refine haveB w w3 (Bc w.heap.size #[.string nm, .int .i64 ep, .int .i64 fl, .int .i64 la, .int .i64 sc, .slice ps ns cs, .slice po no co] 26 <| Bz) ?_
    clear b1 hW
    rintro hW z5 ⟨⟨b1, yb1, k1, f1⟩, -⟩
    clear hb3
    go_upto_region 3 with (fail)
    clear k1 f1
    refine wp_cutB w (Bc w.heap.size #[.string nm, .int .i64 ep, .int .i64 fl, .int .i64 la, .int .i64 sc, .slice ps ns cs, .slice po no co] 26 <| Bz) ?_
    clear b1 hW
    rintro W6 hW z7 ⟨⟨b1, yb1, k1, f1⟩, -⟩
    go_wp2_with fail
    refine (c2.out _ hW).mono ?_
    rintro e w8 ⟨v, rfl, hb8, hO⟩
    have z9 := hb8.size
    try simp at z9
    clear k1 f1
    refine haveB w w8 (Bc w.heap.size #[.string nm, .int .i64 ep, .int .i64 fl, .int .i64 la, .int .i64 sc, .slice ps ns cs, .slice po no co] 26 <| Bz) ?_
    clear b1 hW
    rintro hW z10 ⟨⟨b1, yb1, k1, f1⟩, -⟩
    obtain ⟨pa, qa, ca, va, rfl, hO⟩ := hO
    replace hO := hO.inn
    unfold serA
    clear c2 c1
    go_upto_region 4 with (fail)
    clear k1 f1
    refine wp_cutB w (Bc w.heap.size #[.string nm, .int .i64 ep, .int .i64 fl, .int .i64 la, .int .i64 sc, .slice ps ns cs, .slice po no co] 26 <| Bc w8.heap.size #[.string S.name, .int .i64 S.eps, .int .i64 S.floor, .int .i64 S.last, .int .i64 S.scale, .slice pa S.segs.length ca, .slice qa S.opn.length va] 26 <| Rc (fun W' => SerIn W' S pa qa) <| Bz) ?_ (hI := by exact belowAny) (hR := (Bc.mk (by exact blkAny2) <| Bc.mk (by exact blkAny2) <| Rc.mk (by exact hO.below (by exact belowAny)) <| trivial))
    clear b1 hW
    rintro W11 hW z12 ⟨⟨b1, yb1, k1, f1⟩, ⟨b2, yb2, k2, f2⟩, b3, -⟩
    clear hO
    go_upto_region 6 with (fail)
    clear k1 f1 k2 f2
    refine wp_cutB w (Bc w.heap.size #[.string nm, .int .i64 ep, .int .i64 fl, .int .i64 la, .int .i64 sc, .slice ps ns cs, .slice po no co] 26 <| Bc w8.heap.size #[.string S.name, .int .i64 S.eps, .int .i64 S.floor, .int .i64 S.last, .int .i64 S.scale, .slice pa S.segs.length ca, .slice qa S.opn.length va] 26 <| Rc (fun W' => SerIn W' S pa qa) <| Bz) ?_ (hI := by exact belowAny) (hR := (Bc.mk (by exact blkAny2) <| Bc.mk (by exact blkAny2) <| Rc.mk (by exact b3.below (by first | assumption | exact belowAny)) <| trivial))
    clear b1 b2 b3 hW
    rintro W13 hW z14 ⟨⟨b1, yb1, k1, f1⟩, ⟨b2, yb2, k2, f2⟩, b3, -⟩
    go_wp2_with fail
    refine (c3.out _ pa ca qa va b3).mono ?_
    rintro e w15 ⟨p1, d1, q1, v1, rfl, hb15, h1⟩
    have z16 := hb15.size
    try simp at z16
    clear k1 f1 k2 f2
    refine haveB w w15 (Bc w.heap.size #[.string nm, .int .i64 ep, .int .i64 fl, .int .i64 la, .int .i64 sc, .slice ps ns cs, .slice po no co] 26 <| Bc w8.heap.size #[.string S.name, .int .i64 S.eps, .int .i64 S.floor, .int .i64 S.last, .int .i64 S.scale, .slice pa S.segs.length ca, .slice qa S.opn.length va] 26 <| Rc (fun W' => SerIn W' S pa qa) <| Bz) ?_ (hR := (Bc.mk (by exact blkAny2) <| Bc.mk (by exact blkAny2) <| Rc.mk (by exact b3.below (by first | assumption | exact belowAny)) <| trivial))
    clear b1 b2 b3 hW
    rintro hW z17 ⟨⟨b1, yb1, k1, f1⟩, ⟨b2, yb2, k2, f2⟩, b3, -⟩
    go_upto_region 7 with (fail)
    clear k1 f1 k2 f2
    refine wp_cutB w (Bc w.heap.size #[.string nm, .int .i64 ep, .int .i64 fl, .int .i64 la, .int .i64 sc, .slice ps ns cs, .slice po no co] 26 <| Bc w8.heap.size #[.string S.name, .int .i64 S.eps, .int .i64 S.floor, .int .i64 S.last, .int .i64 S.scale, .slice pa S.segs.length ca, .slice qa S.opn.length va] 26 <| Rc (fun W' => SerIn W' S pa qa) <| Bc w15.heap.size #[.string F.name, .int .i64 F.eps, .int .i64 F.floor, .int .i64 F.last, .int .i64 F.scale, .slice p1 F.segs.length d1, .slice q1 F.opn.length v1] 26 <| Rc (fun W' => SerIn W' F p1 q1) <| Bz) ?_ (hI := by exact belowAny) (hR := (Bc.mk (by exact blkAny2) <| Bc.mk (by exact blkAny2) <| Rc.mk (by exact b3.below (by first | assumption | exact belowAny)) <| Bc.mk (by exact blkAny2) <| Rc.mk (by exact h1.below (by exact belowAny)) <| trivial))
    clear b1 b2 b3 hW
    rintro W18 hW z19 ⟨⟨b1, yb1, k1, f1⟩, ⟨b2, yb2, k2, f2⟩, b3, ⟨b4, yb4, k4, f4⟩, b5, -⟩
    clear h1
    go_wp2_with fail
    refine (c4.out _ p1 d1 q1 v1 b5).mono ?_
    rintro e w20 ⟨p2, d2, q2, v2, rfl, hb20, h2⟩
    have z21 := hb20.size
    try simp at z21
    clear k1 f1 k2 f2 k4 f4
    refine haveB w w20 (Bc w.heap.size #[.string nm, .int .i64 ep, .int .i64 fl, .int .i64 la, .int .i64 sc, .slice ps ns cs, .slice po no co] 26 <| Bc w8.heap.size #[.string S.name, .int .i64 S.eps, .int .i64 S.floor, .int .i64 S.last, .int .i64 S.scale, .slice pa S.segs.length ca, .slice qa S.opn.length va] 26 <| Rc (fun W' => SerIn W' S pa qa) <| Bc w15.heap.size #[.string F.name, .int .i64 F.eps, .int .i64 F.floor, .int .i64 F.last, .int .i64 F.scale, .slice p1 F.segs.length d1, .slice q1 F.opn.length v1] 26 <| Rc (fun W' => SerIn W' F p1 q1) <| Bz) ?_ (hR := (Bc.mk (by exact blkAny2) <| Bc.mk (by exact blkAny2) <| Rc.mk (by exact b3.below (by first | assumption | exact belowAny)) <| Bc.mk (by exact blkAny2) <| Rc.mk (by exact b5.below (by first | assumption | exact belowAny)) <| trivial))
    clear b1 b2 b3 b4 b5 hW
    rintro hW z22 ⟨⟨b1, yb1, k1, f1⟩, ⟨b2, yb2, k2, f2⟩, b3, ⟨b4, yb4, k4, f4⟩, b5, -⟩
    go_upto_region 8 with (fail)
    clear k1 f1 k2 f2 k4 f4
    refine wp_cutB w (Bc w.heap.size #[.string nm, .int .i64 ep, .int .i64 fl, .int .i64 la, .int .i64 sc, .slice ps ns cs, .slice po no co] 26 <| Bc w8.heap.size #[.string S.name, .int .i64 S.eps, .int .i64 S.floor, .int .i64 S.last, .int .i64 S.scale, .slice pa S.segs.length ca, .slice qa S.opn.length va] 26 <| Rc (fun W' => SerIn W' S pa qa) <| Bc w15.heap.size #[.string F.name, .int .i64 F.eps, .int .i64 F.floor, .int .i64 F.last, .int .i64 F.scale, .slice p1 F.segs.length d1, .slice q1 F.opn.length v1] 26 <| Rc (fun W' => SerIn W' F p1 q1) <| Bc w20.heap.size #[.string B.name, .int .i64 B.eps, .int .i64 B.floor, .int .i64 B.last, .int .i64 B.scale, .slice p2 B.segs.length d2, .slice q2 B.opn.length v2] 26 <| Rc (fun W' => SerIn W' B p2 q2) <| Bz) ?_ (hI := by exact belowAny) (hR := (Bc.mk (by exact blkAny2) <| Bc.mk (by exact blkAny2) <| Rc.mk (by exact b3.below (by first | assumption | exact belowAny)) <| Bc.mk (by exact blkAny2) <| Rc.mk (by exact b5.below (by first | assumption | exact belowAny)) <| Bc.mk (by exact blkAny2) <| Rc.mk (by exact h2.below (by exact belowAny)) <| trivial))
    clear b1 b2 b3 b4 b5 hW
    rintro W23 hW z24 ⟨⟨b1, yb1, k1, f1⟩, ⟨b2, yb2, k2, f2⟩, b3, ⟨b4, yb4, k4, f4⟩, b5, ⟨b6, yb6, k6, f6⟩, b7, -⟩
    clear h2
    go_wp2_with fail
    refine (c5.out _ pa ca qa va b3).mono ?_
    rintro e w25 ⟨p3, d3, q3, v3, rfl, hb25, h3⟩
    have z26 := hb25.size
    try simp at z26
    clear k1 f1 k2 f2 k4 f4 k6 f6
    refine haveB w w25 (Bc w.heap.size #[.string nm, .int .i64 ep, .int .i64 fl, .int .i64 la, .int .i64 sc, .slice ps ns cs, .slice po no co] 26 <| Bc w8.heap.size #[.string S.name, .int .i64 S.eps, .int .i64 S.floor, .int .i64 S.last, .int .i64 S.scale, .slice pa S.segs.length ca, .slice qa S.opn.length va] 26 <| Rc (fun W' => SerIn W' S pa qa) <| Bc w15.heap.size #[.string F.name, .int .i64 F.eps, .int .i64 F.floor, .int .i64 F.last, .int .i64 F.scale, .slice p1 F.segs.length d1, .slice q1 F.opn.length v1] 26 <| Rc (fun W' => SerIn W' F p1 q1) <| Bc w20.heap.size #[.string B.name, .int .i64 B.eps, .int .i64 B.floor, .int .i64 B.last, .int .i64 B.scale, .slice p2 B.segs.length d2, .slice q2 B.opn.length v2] 26 <| Rc (fun W' => SerIn W' B p2 q2) <| Bz) ?_ (hR := (Bc.mk (by exact blkAny2) <| Bc.mk (by exact blkAny2) <| Rc.mk (by exact b3.below (by first | assumption | exact belowAny)) <| Bc.mk (by exact blkAny2) <| Rc.mk (by exact b5.below (by first | assumption | exact belowAny)) <| Bc.mk (by exact blkAny2) <| Rc.mk (by exact b7.below (by first | assumption | exact belowAny)) <| trivial))
    clear b1 b2 b3 b4 b5 b6 b7 hW
    rintro hW z27 ⟨⟨b1, yb1, k1, f1⟩, ⟨b2, yb2, k2, f2⟩, b3, ⟨b4, yb4, k4, f4⟩, b5, ⟨b6, yb6, k6, f6⟩, b7, -⟩
    go_upto_region 9 with (fail)
    clear k1 f1 k2 f2 k4 f4 k6 f6
    refine wp_cutB w (Bc w.heap.size #[.string nm, .int .i64 ep, .int .i64 fl, .int .i64 la, .int .i64 sc, .slice ps ns cs, .slice po no co] 26 <| Bc w8.heap.size #[.string S.name, .int .i64 S.eps, .int .i64 S.floor, .int .i64 S.last, .int .i64 S.scale, .slice pa S.segs.length ca, .slice qa S.opn.length va] 26 <| Rc (fun W' => SerIn W' S pa qa) <| Bc w15.heap.size #[.string F.name, .int .i64 F.eps, .int .i64 F.floor, .int .i64 F.last, .int .i64 F.scale, .slice p1 F.segs.length d1, .slice q1 F.opn.length v1] 26 <| Rc (fun W' => SerIn W' F p1 q1) <| Bc w20.heap.size #[.string B.name, .int .i64 B.eps, .int .i64 B.floor, .int .i64 B.last, .int .i64 B.scale, .slice p2 B.segs.length d2, .slice q2 B.opn.length v2] 26 <| Rc (fun W' => SerIn W' B p2 q2) <| Bc w25.heap.size #[.string O.name, .int .i64 O.eps, .int .i64 O.floor, .int .i64 O.last, .int .i64 O.scale, .slice p3 O.segs.length d3, .slice q3 O.opn.length v3] 26 <| Rc (fun W' => SerIn W' O p3 q3) <| Bz) ?_ (hI := by exact belowAny) (hR := (Bc.mk (by exact blkAny2) <| Bc.mk (by exact blkAny2) <| Rc.mk (by exact b3.below (by first | assumption | exact belowAny)) <| Bc.mk (by exact blkAny2) <| Rc.mk (by exact b5.below (by first | assumption | exact belowAny)) <| Bc.mk (by exact blkAny2) <| Rc.mk (by exact b7.below (by first | assumption | exact belowAny)) <| Bc.mk (by exact blkAny2) <| Rc.mk (by exact h3.below (by exact belowAny)) <| trivial))
    clear b1 b2 b3 b4 b5 b6 b7 hW
    rintro W28 hW z29 ⟨⟨b1, yb1, k1, f1⟩, ⟨b2, yb2, k2, f2⟩, b3, ⟨b4, yb4, k4, f4⟩, b5, ⟨b6, yb6, k6, f6⟩, b7, ⟨b8, yb8, k8, f8⟩, b9, -⟩
    clear h3
    clear c3 c4 c5
    go_wp2_with fail
    refine (c6.out _ p3 d3 q3 v3 b9).mono ?_
    rintro e w30 ⟨p4, d4, q4, v4, rfl, hb30, h4⟩
    have z31 := hb30.size
    try simp at z31
    clear k1 f1 k2 f2 k4 f4 k6 f6 k8 f8
    refine haveB w w30 (Bc w.heap.size #[.string nm, .int .i64 ep, .int .i64 fl, .int .i64 la, .int .i64 sc, .slice ps ns cs, .slice po no co] 26 <| Bc w8.heap.size #[.string S.name, .int .i64 S.eps, .int .i64 S.floor, .int .i64 S.last, .int .i64 S.scale, .slice pa S.segs.length ca, .slice qa S.opn.length va] 26 <| Rc (fun W' => SerIn W' S pa qa) <| Bc w15.heap.size #[.string F.name, .int .i64 F.eps, .int .i64 F.floor, .int .i64 F.last, .int .i64 F.scale, .slice p1 F.segs.length d1, .slice q1 F.opn.length v1] 26 <| Rc (fun W' => SerIn W' F p1 q1) <| Bc w20.heap.size #[.string B.name, .int .i64 B.eps, .int .i64 B.floor, .int .i64 B.last, .int .i64 B.scale, .slice p2 B.segs.length d2, .slice q2 B.opn.length v2] 26 <| Rc (fun W' => SerIn W' B p2 q2) <| Bc w25.heap.size #[.string O.name, .int .i64 O.eps, .int .i64 O.floor, .int .i64 O.last, .int .i64 O.scale, .slice p3 O.segs.length d3, .slice q3 O.opn.length v3] 26 <| Rc (fun W' => SerIn W' O p3 q3) <| Bz) ?_ (hR := (Bc.mk (by exact blkAny2) <| Bc.mk (by exact blkAny2) <| Rc.mk (by exact b3.below (by first | assumption | exact belowAny)) <| Bc.mk (by exact blkAny2) <| Rc.mk (by exact b5.below (by first | assumption | exact belowAny)) <| Bc.mk (by exact blkAny2) <| Rc.mk (by exact b7.below (by first | assumption | exact belowAny)) <| Bc.mk (by exact blkAny2) <| Rc.mk (by exact b9.below (by first | assumption | exact belowAny)) <| trivial))
    clear b1 b2 b3 b4 b5 b6 b7 b8 b9 hW
    rintro hW z32 ⟨⟨b1, yb1, k1, f1⟩, ⟨b2, yb2, k2, f2⟩, b3, ⟨b4, yb4, k4, f4⟩, b5, ⟨b6, yb6, k6, f6⟩, b7, ⟨b8, yb8, k8, f8⟩, b9, -⟩
    go_upto_region 12 with (fail)
    clear k1 f1 k2 f2 k4 f4 k6 f6 k8 f8
    refine wp_cutB w (Bc w.heap.size #[.string nm, .int .i64 ep, .int .i64 fl, .int .i64 la, .int .i64 sc, .slice ps ns cs, .slice po no co] 26 <| Bc w8.heap.size #[.string S.name, .int .i64 S.eps, .int .i64 S.floor, .int .i64 S.last, .int .i64 S.scale, .slice pa S.segs.length ca, .slice qa S.opn.length va] 26 <| Rc (fun W' => SerIn W' S pa qa) <| Bc w15.heap.size #[.string F.name, .int .i64 F.eps, .int .i64 F.floor, .int .i64 F.last, .int .i64 F.scale, .slice p1 F.segs.length d1, .slice q1 F.opn.length v1] 26 <| Rc (fun W' => SerIn W' F p1 q1) <| Bc w20.heap.size #[.string B.name, .int .i64 B.eps, .int .i64 B.floor, .int .i64 B.last, .int .i64 B.scale, .slice p2 B.segs.length d2, .slice q2 B.opn.length v2] 26 <| Rc (fun W' => SerIn W' B p2 q2) <| Bc w25.heap.size #[.string O.name, .int .i64 O.eps, .int .i64 O.floor, .int .i64 O.last, .int .i64 O.scale, .slice p3 O.segs.length d3, .slice q3 O.opn.length v3] 26 <| Rc (fun W' => SerIn W' O p3 q3) <| Bc w30.heap.size #[.string K.name, .int .i64 K.eps, .int .i64 K.floor, .int .i64 K.last, .int .i64 K.scale, .slice p4 K.segs.length d4, .slice q4 K.opn.length v4] 26 <| Rc (fun W' => SerIn W' K p4 q4) <| Bz) ?_ (hI := by exact belowAny) (hR := (Bc.mk (by exact blkAny2) <| Bc.mk (by exact blkAny2) <| Rc.mk (by exact b3.below (by first | assumption | exact belowAny)) <| Bc.mk (by exact blkAny2) <| Rc.mk (by exact b5.below (by first | assumption | exact belowAny)) <| Bc.mk (by exact blkAny2) <| Rc.mk (by exact b7.below (by first | assumption | exact belowAny)) <| Bc.mk (by exact blkAny2) <| Rc.mk (by exact b9.below (by first | assumption | exact belowAny)) <| Bc.mk (by exact blkAny2) <| Rc.mk (by exact h4.below (by exact belowAny)) <| trivial))
    clear b1 b2 b3 b4 b5 b6 b7 b8 b9 hW
    rintro W33 hW z34 ⟨⟨b1, yb1, k1, f1⟩, ⟨b2, yb2, k2, f2⟩, b3, ⟨b4, yb4, k4, f4⟩, b5, ⟨b6, yb6, k6, f6⟩, b7, ⟨b8, yb8, k8, f8⟩, b9, ⟨b10, yb10, k10, f10⟩, b11, -⟩
    clear h4
    go_wp2_with fail
    refine (c7.out _ p2 d2 q2 v2 p3 d3 q3 v3 b7 b9).mono ?_
    rintro e w35 ⟨rfl, hb35⟩
    have z36 := hb35.size
    try simp at z36
    clear k1 f1 k2 f2 k4 f4 k6 f6 k8 f8 k10 f10
    refine haveB w w35 (Bc w.heap.size #[.string nm, .int .i64 ep, .int .i64 fl, .int .i64 la, .int .i64 sc, .slice ps ns cs, .slice po no co] 26 <| Bc w8.heap.size #[.string S.name, .int .i64 S.eps, .int .i64 S.floor, .int .i64 S.last, .int .i64 S.scale, .slice pa S.segs.length ca, .slice qa S.opn.length va] 26 <| Rc (fun W' => SerIn W' S pa qa) <| Bc w15.heap.size #[.string F.name, .int .i64 F.eps, .int .i64 F.floor, .int .i64 F.last, .int .i64 F.scale, .slice p1 F.segs.length d1, .slice q1 F.opn.length v1] 26 <| Rc (fun W' => SerIn W' F p1 q1) <| Bc w20.heap.size #[.string B.name, .int .i64 B.eps, .int .i64 B.floor, .int .i64 B.last, .int .i64 B.scale, .slice p2 B.segs.length d2, .slice q2 B.opn.length v2] 26 <| Rc (fun W' => SerIn W' B p2 q2) <| Bc w25.heap.size #[.string O.name, .int .i64 O.eps, .int .i64 O.floor, .int .i64 O.last, .int .i64 O.scale, .slice p3 O.segs.length d3, .slice q3 O.opn.length v3] 26 <| Rc (fun W' => SerIn W' O p3 q3) <| Bc w30.heap.size #[.string K.name, .int .i64 K.eps, .int .i64 K.floor, .int .i64 K.last, .int .i64 K.scale, .slice p4 K.segs.length d4, .slice q4 K.opn.length v4] 26 <| Rc (fun W' => SerIn W' K p4 q4) <| Bz) ?_ (hR := (Bc.mk (by exact blkAny2) <| Bc.mk (by exact blkAny2) <| Rc.mk (by exact b3.below (by first | assumption | exact belowAny)) <| Bc.mk (by exact blkAny2) <| Rc.mk (by exact b5.below (by first | assumption | exact belowAny)) <| Bc.mk (by exact blkAny2) <| Rc.mk (by exact b7.below (by first | assumption | exact belowAny)) <| Bc.mk (by exact blkAny2) <| Rc.mk (by exact b9.below (by first | assumption | exact belowAny)) <| Bc.mk (by exact blkAny2) <| Rc.mk (by exact b11.below (by first | assumption | exact belowAny)) <| trivial))
    clear b1 b2 b3 b4 b5 b6 b7 b8 b9 b10 b11 hW
    rintro hW z37 ⟨⟨b1, yb1, k1, f1⟩, ⟨b2, yb2, k2, f2⟩, b3, ⟨b4, yb4, k4, f4⟩, b5, ⟨b6, yb6, k6, f6⟩, b7, ⟨b8, yb8, k8, f8⟩, b9, ⟨b10, yb10, k10, f10⟩, b11, -⟩
    clear hb35
    go_wp2
    refine bodyPost_ret (by simp [results, Tryz.results10, go_sem, k1, f1, k2, f2, k4, f4, k6, f6, k8, f8, k10, f10, yb1, yb2, yb4, yb6, yb8, yb10]) rfl ⟨rfl, by exact belowAny⟩
  · subst hE1
    subst hE2
    subst hE3
    subst hE4
    go_enter Tryz.func10, Tryz.ntmps10
    go_upto_region 1 with (fail)
    refine wp_cutB w (Bc w.heap.size #[.string nm, .int .i64 ep, .int .i64 fl, .int .i64 la, .int .i64 sc, .slice ps ns cs, .slice po no co] 26 <| Bz) ?_
    rintro W1 hW z2 ⟨⟨b1, yb1, k1, f1⟩, -⟩
    go_wp2_with fail
    refine (c1.out _ belowAny).mono ?_
    rintro e w3 ⟨rfl, hb3⟩
    have z4 := hb3.size
    try simp at z4
    clear k1 f1
    refine haveB w w3 (Bc w.heap.size #[.string nm, .int .i64 ep, .int .i64 fl, .int .i64 la, .int .i64 sc, .slice ps ns cs, .slice po no co] 26 <| Bz) ?_
    clear b1 hW
    rintro hW z5 ⟨⟨b1, yb1, k1, f1⟩, -⟩
    clear hb3
    go_upto_region 3 with (fail)
    clear k1 f1
    refine wp_cutB w (Bc w.heap.size #[.string nm, .int .i64 ep, .int .i64 fl, .int .i64 la, .int .i64 sc, .slice ps ns cs, .slice po no co] 26 <| Bz) ?_
    clear b1 hW
    rintro W6 hW z7 ⟨⟨b1, yb1, k1, f1⟩, -⟩
    go_wp2_with fail
    refine (c2.out _ hW).mono ?_
    rintro e w8 ⟨v, rfl, hb8, hO⟩
    have z9 := hb8.size
    try simp at z9
    clear k1 f1
    refine haveB w w8 (Bc w.heap.size #[.string nm, .int .i64 ep, .int .i64 fl, .int .i64 la, .int .i64 sc, .slice ps ns cs, .slice po no co] 26 <| Bz) ?_
    clear b1 hW
    rintro hW z10 ⟨⟨b1, yb1, k1, f1⟩, -⟩
    obtain ⟨pa, qa, ca, va, rfl, hO⟩ := hO
    replace hO := hO.inn
    unfold serA
    clear c2 c1
    go_upto_region 4 with (fail)
    clear k1 f1
    refine wp_cutB w (Bc w.heap.size #[.string nm, .int .i64 ep, .int .i64 fl, .int .i64 la, .int .i64 sc, .slice ps ns cs, .slice po no co] 26 <| Bc w8.heap.size #[.string S.name, .int .i64 S.eps, .int .i64 S.floor, .int .i64 S.last, .int .i64 S.scale, .slice pa S.segs.length ca, .slice qa S.opn.length va] 26 <| Rc (fun W' => SerIn W' S pa qa) <| Bz) ?_ (hI := by exact belowAny) (hR := (Bc.mk (by exact blkAny2) <| Bc.mk (by exact blkAny2) <| Rc.mk (by exact hO.below (by exact belowAny)) <| trivial))
    clear b1 hW
    rintro W11 hW z12 ⟨⟨b1, yb1, k1, f1⟩, ⟨b2, yb2, k2, f2⟩, b3, -⟩
    clear hO
    go_upto_region 6 with (fail)
    clear k1 f1 k2 f2
    refine wp_cutB w (Bc w.heap.size #[.string nm, .int .i64 ep, .int .i64 fl, .int .i64 la, .int .i64 sc, .slice ps ns cs, .slice po no co] 26 <| Bc w8.heap.size #[.string S.name, .int .i64 S.eps, .int .i64 S.floor, .int .i64 S.last, .int .i64 S.scale, .slice pa S.segs.length ca, .slice qa S.opn.length va] 26 <| Rc (fun W' => SerIn W' S pa qa) <| Bz) ?_ (hI := by exact belowAny) (hR := (Bc.mk (by exact blkAny2) <| Bc.mk (by exact blkAny2) <| Rc.mk (by exact b3.below (by first | assumption | exact belowAny)) <| trivial))
    clear b1 b2 b3 hW
    rintro W13 hW z14 ⟨⟨b1, yb1, k1, f1⟩, ⟨b2, yb2, k2, f2⟩, b3, -⟩
    go_wp2_with fail
    refine (c3.out _ pa ca qa va b3).mono ?_
    rintro e w15 ⟨p1, d1, q1, v1, rfl, hb15, h1⟩
    have z16 := hb15.size
    try simp at z16
    clear k1 f1 k2 f2
    refine haveB w w15 (Bc w.heap.size #[.string nm, .int .i64 ep, .int .i64 fl, .int .i64 la, .int .i64 sc, .slice ps ns cs, .slice po no co] 26 <| Bc w8.heap.size #[.string S.name, .int .i64 S.eps, .int .i64 S.floor, .int .i64 S.last, .int .i64 S.scale, .slice pa S.segs.length ca, .slice qa S.opn.length va] 26 <| Rc (fun W' => SerIn W' S pa qa) <| Bz) ?_ (hR := (Bc.mk (by exact blkAny2) <| Bc.mk (by exact blkAny2) <| Rc.mk (by exact b3.below (by first | assumption | exact belowAny)) <| trivial))
    clear b1 b2 b3 hW
    rintro hW z17 ⟨⟨b1, yb1, k1, f1⟩, ⟨b2, yb2, k2, f2⟩, b3, -⟩
    go_upto_region 7 with (fail)
    clear k1 f1 k2 f2
    refine wp_cutB w (Bc w.heap.size #[.string nm, .int .i64 ep, .int .i64 fl, .int .i64 la, .int .i64 sc, .slice ps ns cs, .slice po no co] 26 <| Bc w8.heap.size #[.string S.name, .int .i64 S.eps, .int .i64 S.floor, .int .i64 S.last, .int .i64 S.scale, .slice pa S.segs.length ca, .slice qa S.opn.length va] 26 <| Rc (fun W' => SerIn W' S pa qa) <| Bc w15.heap.size #[.string F.name, .int .i64 F.eps, .int .i64 F.floor, .int .i64 F.last, .int .i64 F.scale, .slice p1 F.segs.length d1, .slice q1 F.opn.length v1] 26 <| Rc (fun W' => SerIn W' F p1 q1) <| Bz) ?_ (hI := by exact belowAny) (hR := (Bc.mk (by exact blkAny2) <| Bc.mk (by exact blkAny2) <| Rc.mk (by exact b3.below (by first | assumption | exact belowAny)) <| Bc.mk (by exact blkAny2) <| Rc.mk (by exact h1.below (by exact belowAny)) <| trivial))
    clear b1 b2 b3 hW
    rintro W18 hW z19 ⟨⟨b1, yb1, k1, f1⟩, ⟨b2, yb2, k2, f2⟩, b3, ⟨b4, yb4, k4, f4⟩, b5, -⟩
    clear h1
    go_wp2_with fail
    refine (c4.out _ p1 d1 q1 v1 b5).mono ?_
    rintro e w20 ⟨p2, d2, q2, v2, rfl, hb20, h2⟩
    have z21 := hb20.size
    try simp at z21
    clear k1 f1 k2 f2 k4 f4
    refine haveB w w20 (Bc w.heap.size #[.string nm, .int .i64 ep, .int .i64 fl, .int .i64 la, .int .i64 sc, .slice ps ns cs, .slice po no co] 26 <| Bc w8.heap.size #[.string S.name, .int .i64 S.eps, .int .i64 S.floor, .int .i64 S.last, .int .i64 S.scale, .slice pa S.segs.length ca, .slice qa S.opn.length va] 26 <| Rc (fun W' => SerIn W' S pa qa) <| Bc w15.heap.size #[.string F.name, .int .i64 F.eps, .int .i64 F.floor, .int .i64 F.last, .int .i64 F.scale, .slice p1 F.segs.length d1, .slice q1 F.opn.length v1] 26 <| Rc (fun W' => SerIn W' F p1 q1) <| Bz) ?_ (hR := (Bc.mk (by exact blkAny2) <| Bc.mk (by exact blkAny2) <| Rc.mk (by exact b3.below (by first | assumption | exact belowAny)) <| Bc.mk (by exact blkAny2) <| Rc.mk (by exact b5.below (by first | assumption | exact belowAny)) <| trivial))
    clear b1 b2 b3 b4 b5 hW
    rintro hW z22 ⟨⟨b1, yb1, k1, f1⟩, ⟨b2, yb2, k2, f2⟩, b3, ⟨b4, yb4, k4, f4⟩, b5, -⟩
    go_upto_region 8 with (fail)
    clear k1 f1 k2 f2 k4 f4
    refine wp_cutB w (Bc w.heap.size #[.string nm, .int .i64 ep, .int .i64 fl, .int .i64 la, .int .i64 sc, .slice ps ns cs, .slice po no co] 26 <| Bc w8.heap.size #[.string S.name, .int .i64 S.eps, .int .i64 S.floor, .int .i64 S.last, .int .i64 S.scale, .slice pa S.segs.length ca, .slice qa S.opn.length va] 26 <| Rc (fun W' => SerIn W' S pa qa) <| Bc w15.heap.size #[.string F.name, .int .i64 F.eps, .int .i64 F.floor, .int .i64 F.last, .int .i64 F.scale, .slice p1 F.segs.length d1, .slice q1 F.opn.length v1] 26 <| Rc (fun W' => SerIn W' F p1 q1) <| Bc w20.heap.size #[.string B.name, .int .i64 B.eps, .int .i64 B.floor, .int .i64 B.last, .int .i64 B.scale, .slice p2 B.segs.length d2, .slice q2 B.opn.length v2] 26 <| Rc (fun W' => SerIn W' B p2 q2) <| Bz) ?_ (hI := by exact belowAny) (hR := (Bc.mk (by exact blkAny2) <| Bc.mk (by exact blkAny2) <| Rc.mk (by exact b3.below (by first | assumption | exact belowAny)) <| Bc.mk (by exact blkAny2) <| Rc.mk (by exact b5.below (by first | assumption | exact belowAny)) <| Bc.mk (by exact blkAny2) <| Rc.mk (by exact h2.below (by exact belowAny)) <| trivial))
    clear b1 b2 b3 b4 b5 hW
    rintro W23 hW z24 ⟨⟨b1, yb1, k1, f1⟩, ⟨b2, yb2, k2, f2⟩, b3, ⟨b4, yb4, k4, f4⟩, b5, ⟨b6, yb6, k6, f6⟩, b7, -⟩
    clear h2
    go_wp2_with fail
    refine (c5.out _ pa ca qa va b3).mono ?_
    rintro e w25 ⟨p3, d3, q3, v3, rfl, hb25, h3⟩
    have z26 := hb25.size
    try simp at z26
    clear k1 f1 k2 f2 k4 f4 k6 f6
    refine haveB w w25 (Bc w.heap.size #[.string nm, .int .i64 ep, .int .i64 fl, .int .i64 la, .int .i64 sc, .slice ps ns cs, .slice po no co] 26 <| Bc w8.heap.size #[.string S.name, .int .i64 S.eps, .int .i64 S.floor, .int .i64 S.last, .int .i64 S.scale, .slice pa S.segs.length ca, .slice qa S.opn.length va] 26 <| Rc (fun W' => SerIn W' S pa qa) <| Bc w15.heap.size #[.string F.name, .int .i64 F.eps, .int .i64 F.floor, .int .i64 F.last, .int .i64 F.scale, .slice p1 F.segs.length d1, .slice q1 F.opn.length v1] 26 <| Rc (fun W' => SerIn W' F p1 q1) <| Bc w20.heap.size #[.string B.name, .int .i64 B.eps, .int .i64 B.floor, .int .i64 B.last, .int .i64 B.scale, .slice p2 B.segs.length d2, .slice q2 B.opn.length v2] 26 <| Rc (fun W' => SerIn W' B p2 q2) <| Bz) ?_ (hR := (Bc.mk (by exact blkAny2) <| Bc.mk (by exact blkAny2) <| Rc.mk (by exact b3.below (by first | assumption | exact belowAny)) <| Bc.mk (by exact blkAny2) <| Rc.mk (by exact b5.below (by first | assumption | exact belowAny)) <| Bc.mk (by exact blkAny2) <| Rc.mk (by exact b7.below (by first | assumption | exact belowAny)) <| trivial))
    clear b1 b2 b3 b4 b5 b6 b7 hW
    rintro hW z27 ⟨⟨b1, yb1, k1, f1⟩, ⟨b2, yb2, k2, f2⟩, b3, ⟨b4, yb4, k4, f4⟩, b5, ⟨b6, yb6, k6, f6⟩, b7, -⟩
    go_upto_region 9 with (fail)
    clear k1 f1 k2 f2 k4 f4 k6 f6
    refine wp_cutB w (Bc w.heap.size #[.string nm, .int .i64 ep, .int .i64 fl, .int .i64 la, .int .i64 sc, .slice ps ns cs, .slice po no co] 26 <| Bc w8.heap.size #[.string S.name, .int .i64 S.eps, .int .i64 S.floor, .int .i64 S.last, .int .i64 S.scale, .slice pa S.segs.length ca, .slice qa S.opn.length va] 26 <| Rc (fun W' => SerIn W' S pa qa) <| Bc w15.heap.size #[.string F.name, .int .i64 F.eps, .int .i64 F.floor, .int .i64 F.last, .int .i64 F.scale, .slice p1 F.segs.length d1, .slice q1 F.opn.length v1] 26 <| Rc (fun W' => SerIn W' F p1 q1) <| Bc w20.heap.size #[.string B.name, .int .i64 B.eps, .int .i64 B.floor, .int .i64 B.last, .int .i64 B.scale, .slice p2 B.segs.length d2, .slice q2 B.opn.length v2] 26 <| Rc (fun W' => SerIn W' B p2 q2) <| Bc w25.heap.size #[.string O.name, .int .i64 O.eps, .int .i64 O.floor, .int .i64 O.last, .int .i64 O.scale, .slice p3 O.segs.length d3, .slice q3 O.opn.length v3] 26 <| Rc (fun W' => SerIn W' O p3 q3) <| Bz) ?_ (hI := by exact belowAny) (hR := (Bc.mk (by exact blkAny2) <| Bc.mk (by exact blkAny2) <| Rc.mk (by exact b3.below (by first | assumption | exact belowAny)) <| Bc.mk (by exact blkAny2) <| Rc.mk (by exact b5.below (by first | assumption | exact belowAny)) <| Bc.mk (by exact blkAny2) <| Rc.mk (by exact b7.below (by first | assumption | exact belowAny)) <| Bc.mk (by exact blkAny2) <| Rc.mk (by exact h3.below (by exact belowAny)) <| trivial))
    clear b1 b2 b3 b4 b5 b6 b7 hW
    rintro W28 hW z29 ⟨⟨b1, yb1, k1, f1⟩, ⟨b2, yb2, k2, f2⟩, b3, ⟨b4, yb4, k4, f4⟩, b5, ⟨b6, yb6, k6, f6⟩, b7, ⟨b8, yb8, k8, f8⟩, b9, -⟩
    clear h3
    clear c3 c4 c5
    go_wp2_with fail
    refine (c6.out _ p3 d3 q3 v3 b9).mono ?_
    rintro e w30 ⟨p4, d4, q4, v4, rfl, hb30, h4⟩
    have z31 := hb30.size
    try simp at z31
    clear k1 f1 k2 f2 k4 f4 k6 f6 k8 f8
    refine haveB w w30 (Bc w.heap.size #[.string nm, .int .i64 ep, .int .i64 fl, .int .i64 la, .int .i64 sc, .slice ps ns cs, .slice po no co] 26 <| Bc w8.heap.size #[.string S.name, .int .i64 S.eps, .int .i64 S.floor, .int .i64 S.last, .int .i64 S.scale, .slice pa S.segs.length ca, .slice qa S.opn.length va] 26 <| Rc (fun W' => SerIn W' S pa qa) <| Bc w15.heap.size #[.string F.name, .int .i64 F.eps, .int .i64 F.floor, .int .i64 F.last, .int .i64 F.scale, .slice p1 F.segs.length d1, .slice q1 F.opn.length v1] 26 <| Rc (fun W' => SerIn W' F p1 q1) <| Bc w20.heap.size #[.string B.name, .int .i64 B.eps, .int .i64 B.floor, .int .i64 B.last, .int .i64 B.scale, .slice p2 B.segs.length d2, .slice q2 B.opn.length v2] 26 <| Rc (fun W' => SerIn W' B p2 q2) <| Bc w25.heap.size #[.string O.name, .int .i64 O.eps, .int .i64 O.floor, .int .i64 O.last, .int .i64 O.scale, .slice p3 O.segs.length d3, .slice q3 O.opn.length v3] 26 <| Rc (fun W' => SerIn W' O p3 q3) <| Bz) ?_ (hR := (Bc.mk (by exact blkAny2) <| Bc.mk (by exact blkAny2) <| Rc.mk (by exact b3.below (by first | assumption | exact belowAny)) <| Bc.mk (by exact blkAny2) <| Rc.mk (by exact b5.below (by first | assumption | exact belowAny)) <| Bc.mk (by exact blkAny2) <| Rc.mk (by exact b7.below (by first | assumption | exact belowAny)) <| Bc.mk (by exact blkAny2) <| Rc.mk (by exact b9.below (by first | assumption | exact belowAny)) <| trivial))
    clear b1 b2 b3 b4 b5 b6 b7 b8 b9 hW
    rintro hW z32 ⟨⟨b1, yb1, k1, f1⟩, ⟨b2, yb2, k2, f2⟩, b3, ⟨b4, yb4, k4, f4⟩, b5, ⟨b6, yb6, k6, f6⟩, b7, ⟨b8, yb8, k8, f8⟩, b9, -⟩
    go_upto_region 12 with (fail)
    clear k1 f1 k2 f2 k4 f4 k6 f6 k8 f8
    refine wp_cutB w (Bc w.heap.size #[.string nm, .int .i64 ep, .int .i64 fl, .int .i64 la, .int .i64 sc, .slice ps ns cs, .slice po no co] 26 <| Bc w8.heap.size #[.string S.name, .int .i64 S.eps, .int .i64 S.floor, .int .i64 S.last, .int .i64 S.scale, .slice pa S.segs.length ca, .slice qa S.opn.length va] 26 <| Rc (fun W' => SerIn W' S pa qa) <| Bc w15.heap.size #[.string F.name, .int .i64 F.eps, .int .i64 F.floor, .int .i64 F.last, .int .i64 F.scale, .slice p1 F.segs.length d1, .slice q1 F.opn.length v1] 26 <| Rc (fun W' => SerIn W' F p1 q1) <| Bc w20.heap.size #[.string B.name, .int .i64 B.eps, .int .i64 B.floor, .int .i64 B.last, .int .i64 B.scale, .slice p2 B.segs.length d2, .slice q2 B.opn.length v2] 26 <| Rc (fun W' => SerIn W' B p2 q2) <| Bc w25.heap.size #[.string O.name, .int .i64 O.eps, .int .i64 O.floor, .int .i64 O.last, .int .i64 O.scale, .slice p3 O.segs.length d3, .slice q3 O.opn.length v3] 26 <| Rc (fun W' => SerIn W' O p3 q3) <| Bc w30.heap.size #[.string K.name, .int .i64 K.eps, .int .i64 K.floor, .int .i64 K.last, .int .i64 K.scale, .slice p4 K.segs.length d4, .slice q4 K.opn.length v4] 26 <| Rc (fun W' => SerIn W' K p4 q4) <| Bz) ?_ (hI := by exact belowAny) (hR := (Bc.mk (by exact blkAny2) <| Bc.mk (by exact blkAny2) <| Rc.mk (by exact b3.below (by first | assumption | exact belowAny)) <| Bc.mk (by exact blkAny2) <| Rc.mk (by exact b5.below (by first | assumption | exact belowAny)) <| Bc.mk (by exact blkAny2) <| Rc.mk (by exact b7.below (by first | assumption | exact belowAny)) <| Bc.mk (by exact blkAny2) <| Rc.mk (by exact b9.below (by first | assumption | exact belowAny)) <| Bc.mk (by exact blkAny2) <| Rc.mk (by exact h4.below (by exact belowAny)) <| trivial))
    clear b1 b2 b3 b4 b5 b6 b7 b8 b9 hW
    rintro W33 hW z34 ⟨⟨b1, yb1, k1, f1⟩, ⟨b2, yb2, k2, f2⟩, b3, ⟨b4, yb4, k4, f4⟩, b5, ⟨b6, yb6, k6, f6⟩, b7, ⟨b8, yb8, k8, f8⟩, b9, ⟨b10, yb10, k10, f10⟩, b11, -⟩
    clear h4
    go_wp2_with fail
    refine (c7.out _ p2 d2 q2 v2 p3 d3 q3 v3 b7 b9).mono ?_
    rintro e w35 ⟨rfl, hb35⟩
    have z36 := hb35.size
    try simp at z36
    clear k1 f1 k2 f2 k4 f4 k6 f6 k8 f8 k10 f10
    refine haveB w w35 (Bc w.heap.size #[.string nm, .int .i64 ep, .int .i64 fl, .int .i64 la, .int .i64 sc, .slice ps ns cs, .slice po no co] 26 <| Bc w8.heap.size #[.string S.name, .int .i64 S.eps, .int .i64 S.floor, .int .i64 S.last, .int .i64 S.scale, .slice pa S.segs.length ca, .slice qa S.opn.length va] 26 <| Rc (fun W' => SerIn W' S pa qa) <| Bc w15.heap.size #[.string F.name, .int .i64 F.eps, .int .i64 F.floor, .int .i64 F.last, .int .i64 F.scale, .slice p1 F.segs.length d1, .slice q1 F.opn.length v1] 26 <| Rc (fun W' => SerIn W' F p1 q1) <| Bc w20.heap.size #[.string B.name, .int .i64 B.eps, .int .i64 B.floor, .int .i64 B.last, .int .i64 B.scale, .slice p2 B.segs.length d2, .slice q2 B.opn.length v2] 26 <| Rc (fun W' => SerIn W' B p2 q2) <| Bc w25.heap.size #[.string O.name, .int .i64 O.eps, .int .i64 O.floor, .int .i64 O.last, .int .i64 O.scale, .slice p3 O.segs.length d3, .slice q3 O.opn.length v3] 26 <| Rc (fun W' => SerIn W' O p3 q3) <| Bc w30.heap.size #[.string K.name, .int .i64 K.eps, .int .i64 K.floor, .int .i64 K.last, .int .i64 K.scale, .slice p4 K.segs.length d4, .slice q4 K.opn.length v4] 26 <| Rc (fun W' => SerIn W' K p4 q4) <| Bz) ?_ (hR := (Bc.mk (by exact blkAny2) <| Bc.mk (by exact blkAny2) <| Rc.mk (by exact b3.below (by first | assumption | exact belowAny)) <| Bc.mk (by exact blkAny2) <| Rc.mk (by exact b5.below (by first | assumption | exact belowAny)) <| Bc.mk (by exact blkAny2) <| Rc.mk (by exact b7.below (by first | assumption | exact belowAny)) <| Bc.mk (by exact blkAny2) <| Rc.mk (by exact b9.below (by first | assumption | exact belowAny)) <| Bc.mk (by exact blkAny2) <| Rc.mk (by exact b11.below (by first | assumption | exact belowAny)) <| trivial))
    clear b1 b2 b3 b4 b5 b6 b7 b8 b9 b10 b11 hW
    rintro hW z37 ⟨⟨b1, yb1, k1, f1⟩, ⟨b2, yb2, k2, f2⟩, b3, ⟨b4, yb4, k4, f4⟩, b5, ⟨b6, yb6, k6, f6⟩, b7, ⟨b8, yb8, k8, f8⟩, b9, ⟨b10, yb10, k10, f10⟩, b11, -⟩
    clear hb35
    go_wp2
    refine bodyPost_ret (by simp [results, Tryz.results10, go_sem, k1, f1, k2, f2, k4, f4, k6, f6, k8, f8, k10, f10, yb1, yb2, yb4, yb6, yb8, yb10]) rfl ⟨rfl, by exact belowAny⟩
set_option maxRecDepth 100000 in
set_option maxHeartbeats 2000000 in
theorem floor_w4 (nm : ByteArray) (ep fl la sc : Int) (ps po : Option Addr) (ns cs no co : Nat) (S F B O K : SerT) (a b lo hi E1 E2 E3 E4 : Int) (w : World) (hsw : (¬b < a ∧ a = lo ∧ b = hi) ∨ (b < a ∧ b = lo ∧ a = hi)) (hE1 : E1 = 0) (hE2 : E2 = 0) (hE3 : E3 = 0) (hE4 : E4 = 0) (heq : (lo == hi) = true)
    (c1 : Hid (∀ W, Below w.heap.size w W → Calls Tryz.prog 11 #[] W fun e w' => e = .returned (.bool true) ∧ Below W.heap.size W w'))
    (c2 : Hid (∀ W, Below w.heap.size w W → Calls Tryz.prog 15 #[.agg #[.string nm, .int .i64 ep, .int .i64 fl, .int .i64 la, .int .i64 sc, .slice ps ns cs, .slice po no co]] W fun e w' => ∃ v, e = .returned v ∧ Below W.heap.size W w' ∧ OSer S v w'))
    (c3 : Hid (∀ W p c q d, SerIn W S p q → Calls Tryz.prog 22 #[.agg #[.string S.name, .int .i64 S.eps, .int .i64 S.floor, .int .i64 S.last, .int .i64 S.scale, .slice p S.segs.length c, .slice q S.opn.length d], .int .i64 lo] W fun e w' => ∃ p' c' q' d', e = .returned (.tuple #[.agg #[.string F.name, .int .i64 F.eps, .int .i64 F.floor, .int .i64 F.last, .int .i64 F.scale, .slice p' F.segs.length c', .slice q' F.opn.length d'], .int .i64 E1]) ∧ Below W.heap.size W w' ∧ SerIn w' F p' q'))
    (c4 : Hid (∀ W p c q d, SerIn W F p q → Calls Tryz.prog 22 #[.agg #[.string F.name, .int .i64 F.eps, .int .i64 F.floor, .int .i64 F.last, .int .i64 F.scale, .slice p F.segs.length c, .slice q F.opn.length d], .int .i64 hi] W fun e w' => ∃ p' c' q' d', e = .returned (.tuple #[.agg #[.string B.name, .int .i64 B.eps, .int .i64 B.floor, .int .i64 B.last, .int .i64 B.scale, .slice p' B.segs.length c', .slice q' B.opn.length d'], .int .i64 E2]) ∧ Below W.heap.size W w' ∧ SerIn w' B p' q'))
    (c5 : Hid (∀ W p c q d, SerIn W S p q → Calls Tryz.prog 22 #[.agg #[.string S.name, .int .i64 S.eps, .int .i64 S.floor, .int .i64 S.last, .int .i64 S.scale, .slice p S.segs.length c, .slice q S.opn.length d], .int .i64 hi] W fun e w' => ∃ p' c' q' d', e = .returned (.tuple #[.agg #[.string O.name, .int .i64 O.eps, .int .i64 O.floor, .int .i64 O.last, .int .i64 O.scale, .slice p' O.segs.length c', .slice q' O.opn.length d'], .int .i64 E3]) ∧ Below W.heap.size W w' ∧ SerIn w' O p' q'))
    (c6 : Hid (∀ W p c q d, SerIn W O p q → Calls Tryz.prog 22 #[.agg #[.string O.name, .int .i64 O.eps, .int .i64 O.floor, .int .i64 O.last, .int .i64 O.scale, .slice p O.segs.length c, .slice q O.opn.length d], .int .i64 lo] W fun e w' => ∃ p' c' q' d', e = .returned (.tuple #[.agg #[.string K.name, .int .i64 K.eps, .int .i64 K.floor, .int .i64 K.last, .int .i64 K.scale, .slice p' K.segs.length c', .slice q' K.opn.length d'], .int .i64 E4]) ∧ Below W.heap.size W w' ∧ SerIn w' K p' q'))
    (c7 : Hid (∀ W p c q d p' c' q' d', SerIn W B p q → SerIn W O p' q' → Calls Tryz.prog 35 #[.agg #[.string B.name, .int .i64 B.eps, .int .i64 B.floor, .int .i64 B.last, .int .i64 B.scale, .slice p B.segs.length c, .slice q B.opn.length d], .agg #[.string O.name, .int .i64 O.eps, .int .i64 O.floor, .int .i64 O.last, .int .i64 O.scale, .slice p' O.segs.length c', .slice q' O.opn.length d']] W fun e w' => e = .returned (.bool true) ∧ Below W.heap.size W w'))
    (c8 : Hid (∀ W p c q d p' c' q' d', SerIn W K p q → SerIn W O p' q' → Calls Tryz.prog 35 #[.agg #[.string K.name, .int .i64 K.eps, .int .i64 K.floor, .int .i64 K.last, .int .i64 K.scale, .slice p K.segs.length c, .slice q K.opn.length d], .agg #[.string O.name, .int .i64 O.eps, .int .i64 O.floor, .int .i64 O.last, .int .i64 O.scale, .slice p' O.segs.length c', .slice q' O.opn.length d']] W fun e w' => e = .returned (.bool true) ∧ Below W.heap.size W w')) :
    Calls Tryz.prog 10 #[.agg #[.string nm, .int .i64 ep, .int .i64 fl, .int .i64 la, .int .i64 sc, .slice ps ns cs, .slice po no co], .int .i64 a, .int .i64 b] w fun e w' => e = .returned (.bool true) ∧ Below w.heap.size w w' := by
  rcases hsw with ⟨hab, rfl, rfl⟩ | ⟨hab, rfl, rfl⟩
  · subst hE1
    subst hE2
    subst hE3
    subst hE4
    go_enter Tryz.func10, Tryz.ntmps10
    go_upto_region 1 with (fail)
    refine wp_cutB w (Bc w.heap.size #[.string nm, .int .i64 ep, .int .i64 fl, .int .i64 la, .int .i64 sc, .slice ps ns cs, .slice po no co] 26 <| Bz) ?_
    rintro W1 hW z2 ⟨⟨b1, yb1, k1, f1⟩, -⟩
    go_wp2_with fail
    refine (c1.out _ belowAny).mono ?_
    rintro e w3 ⟨rfl, hb3⟩
    have z4 := hb3.size
    try simp at z4
    clear k1 f1
    refine haveB w w3 (Bc w.heap.size #[.string nm, .int .i64 ep, .int .i64 fl, .int .i64 la, .int .i64 sc, .slice ps ns cs, .slice po no co] 26 <| Bz) ?_
    clear b1 hW
    rintro hW z5 ⟨⟨b1, yb1, k1, f1⟩, -⟩
    clear hb3
    go_upto_region 3 with (fail)
    clear k1 f1
    refine wp_cutB w (Bc w.heap.size #[.string nm, .int .i64 ep, .int .i64 fl, .int .i64 la, .int .i64 sc, .slice ps ns cs, .slice po no co] 26 <| Bz) ?_
    clear b1 hW
    rintro W6 hW z7 ⟨⟨b1, yb1, k1, f1⟩, -⟩
    go_wp2_with fail
    refine (c2.out _ hW).mono ?_
    rintro e w8 ⟨v, rfl, hb8, hO⟩
    have z9 := hb8.size
    try simp at z9
    clear k1 f1
    refine haveB w w8 (Bc w.heap.size #[.string nm, .int .i64 ep, .int .i64 fl, .int .i64 la, .int .i64 sc, .slice ps ns cs, .slice po no co] 26 <| Bz) ?_
    clear b1 hW
    rintro hW z10 ⟨⟨b1, yb1, k1, f1⟩, -⟩
    obtain ⟨pa, qa, ca, va, rfl, hO⟩ := hO
    replace hO := hO.inn
    unfold serA
    clear c2 c1
    go_upto_region 4 with (fail)
    clear k1 f1
    refine wp_cutB w (Bc w.heap.size #[.string nm, .int .i64 ep, .int .i64 fl, .int .i64 la, .int .i64 sc, .slice ps ns cs, .slice po no co] 26 <| Bc w8.heap.size #[.string S.name, .int .i64 S.eps, .int .i64 S.floor, .int .i64 S.last, .int .i64 S.scale, .slice pa S.segs.length ca, .slice qa S.opn.length va] 26 <| Rc (fun W' => SerIn W' S pa qa) <| Bz) ?_ (hI := by exact belowAny) (hR := (Bc.mk (by exact blkAny2) <| Bc.mk (by exact blkAny2) <| Rc.mk (by exact hO.below (by exact belowAny)) <| trivial))
    clear b1 hW
    rintro W11 hW z12 ⟨⟨b1, yb1, k1, f1⟩, ⟨b2, yb2, k2, f2⟩, b3, -⟩
    clear hO
    go_upto_region 6 with (fail)
    clear k1 f1 k2 f2
    refine wp_cutB w (Bc w.heap.size #[.string nm, .int .i64 ep, .int .i64 fl, .int .i64 la, .int .i64 sc, .slice ps ns cs, .slice po no co] 26 <| Bc w8.heap.size #[.string S.name, .int .i64 S.eps, .int .i64 S.floor, .int .i64 S.last, .int .i64 S.scale, .slice pa S.segs.length ca, .slice qa S.opn.length va] 26 <| Rc (fun W' => SerIn W' S pa qa) <| Bz) ?_ (hI := by exact belowAny) (hR := (Bc.mk (by exact blkAny2) <| Bc.mk (by exact blkAny2) <| Rc.mk (by exact b3.below (by first | assumption | exact belowAny)) <| trivial))
    clear b1 b2 b3 hW
    rintro W13 hW z14 ⟨⟨b1, yb1, k1, f1⟩, ⟨b2, yb2, k2, f2⟩, b3, -⟩
    go_wp2_with fail
    refine (c3.out _ pa ca qa va b3).mono ?_
    rintro e w15 ⟨p1, d1, q1, v1, rfl, hb15, h1⟩
    have z16 := hb15.size
    try simp at z16
    clear k1 f1 k2 f2
    refine haveB w w15 (Bc w.heap.size #[.string nm, .int .i64 ep, .int .i64 fl, .int .i64 la, .int .i64 sc, .slice ps ns cs, .slice po no co] 26 <| Bc w8.heap.size #[.string S.name, .int .i64 S.eps, .int .i64 S.floor, .int .i64 S.last, .int .i64 S.scale, .slice pa S.segs.length ca, .slice qa S.opn.length va] 26 <| Rc (fun W' => SerIn W' S pa qa) <| Bz) ?_ (hR := (Bc.mk (by exact blkAny2) <| Bc.mk (by exact blkAny2) <| Rc.mk (by exact b3.below (by first | assumption | exact belowAny)) <| trivial))
    clear b1 b2 b3 hW
    rintro hW z17 ⟨⟨b1, yb1, k1, f1⟩, ⟨b2, yb2, k2, f2⟩, b3, -⟩
    go_upto_region 7 with (fail)
    clear k1 f1 k2 f2
    refine wp_cutB w (Bc w.heap.size #[.string nm, .int .i64 ep, .int .i64 fl, .int .i64 la, .int .i64 sc, .slice ps ns cs, .slice po no co] 26 <| Bc w8.heap.size #[.string S.name, .int .i64 S.eps, .int .i64 S.floor, .int .i64 S.last, .int .i64 S.scale, .slice pa S.segs.length ca, .slice qa S.opn.length va] 26 <| Rc (fun W' => SerIn W' S pa qa) <| Bc w15.heap.size #[.string F.name, .int .i64 F.eps, .int .i64 F.floor, .int .i64 F.last, .int .i64 F.scale, .slice p1 F.segs.length d1, .slice q1 F.opn.length v1] 26 <| Rc (fun W' => SerIn W' F p1 q1) <| Bz) ?_ (hI := by exact belowAny) (hR := (Bc.mk (by exact blkAny2) <| Bc.mk (by exact blkAny2) <| Rc.mk (by exact b3.below (by first | assumption | exact belowAny)) <| Bc.mk (by exact blkAny2) <| Rc.mk (by exact h1.below (by exact belowAny)) <| trivial))
    clear b1 b2 b3 hW
    rintro W18 hW z19 ⟨⟨b1, yb1, k1, f1⟩, ⟨b2, yb2, k2, f2⟩, b3, ⟨b4, yb4, k4, f4⟩, b5, -⟩
    clear h1
    go_wp2_with fail
    refine (c4.out _ p1 d1 q1 v1 b5).mono ?_
    rintro e w20 ⟨p2, d2, q2, v2, rfl, hb20, h2⟩
    have z21 := hb20.size
    try simp at z21
    clear k1 f1 k2 f2 k4 f4
    refine haveB w w20 (Bc w.heap.size #[.string nm, .int .i64 ep, .int .i64 fl, .int .i64 la, .int .i64 sc, .slice ps ns cs, .slice po no co] 26 <| Bc w8.heap.size #[.string S.name, .int .i64 S.eps, .int .i64 S.floor, .int .i64 S.last, .int .i64 S.scale, .slice pa S.segs.length ca, .slice qa S.opn.length va] 26 <| Rc (fun W' => SerIn W' S pa qa) <| Bc w15.heap.size #[.string F.name, .int .i64 F.eps, .int .i64 F.floor, .int .i64 F.last, .int .i64 F.scale, .slice p1 F.segs.length d1, .slice q1 F.opn.length v1] 26 <| Rc (fun W' => SerIn W' F p1 q1) <| Bz) ?_ (hR := (Bc.mk (by exact blkAny2) <| Bc.mk (by exact blkAny2) <| Rc.mk (by exact b3.below (by first | assumption | exact belowAny)) <| Bc.mk (by exact blkAny2) <| Rc.mk (by exact b5.below (by first | assumption | exact belowAny)) <| trivial))
    clear b1 b2 b3 b4 b5 hW
    rintro hW z22 ⟨⟨b1, yb1, k1, f1⟩, ⟨b2, yb2, k2, f2⟩, b3, ⟨b4, yb4, k4, f4⟩, b5, -⟩
    go_upto_region 8 with (fail)
    clear k1 f1 k2 f2 k4 f4
    refine wp_cutB w (Bc w.heap.size #[.string nm, .int .i64 ep, .int .i64 fl, .int .i64 la, .int .i64 sc, .slice ps ns cs, .slice po no co] 26 <| Bc w8.heap.size #[.string S.name, .int .i64 S.eps, .int .i64 S.floor, .int .i64 S.last, .int .i64 S.scale, .slice pa S.segs.length ca, .slice qa S.opn.length va] 26 <| Rc (fun W' => SerIn W' S pa qa) <| Bc w15.heap.size #[.string F.name, .int .i64 F.eps, .int .i64 F.floor, .int .i64 F.last, .int .i64 F.scale, .slice p1 F.segs.length d1, .slice q1 F.opn.length v1] 26 <| Rc (fun W' => SerIn W' F p1 q1) <| Bc w20.heap.size #[.string B.name, .int .i64 B.eps, .int .i64 B.floor, .int .i64 B.last, .int .i64 B.scale, .slice p2 B.segs.length d2, .slice q2 B.opn.length v2] 26 <| Rc (fun W' => SerIn W' B p2 q2) <| Bz) ?_ (hI := by exact belowAny) (hR := (Bc.mk (by exact blkAny2) <| Bc.mk (by exact blkAny2) <| Rc.mk (by exact b3.below (by first | assumption | exact belowAny)) <| Bc.mk (by exact blkAny2) <| Rc.mk (by exact b5.below (by first | assumption | exact belowAny)) <| Bc.mk (by exact blkAny2) <| Rc.mk (by exact h2.below (by exact belowAny)) <| trivial))
    clear b1 b2 b3 b4 b5 hW
    rintro W23 hW z24 ⟨⟨b1, yb1, k1, f1⟩, ⟨b2, yb2, k2, f2⟩, b3, ⟨b4, yb4, k4, f4⟩, b5, ⟨b6, yb6, k6, f6⟩, b7, -⟩
    clear h2
    go_wp2_with fail
    refine (c5.out _ pa ca qa va b3).mono ?_
    rintro e w25 ⟨p3, d3, q3, v3, rfl, hb25, h3⟩
    have z26 := hb25.size
    try simp at z26
    clear k1 f1 k2 f2 k4 f4 k6 f6
    refine haveB w w25 (Bc w.heap.size #[.string nm, .int .i64 ep, .int .i64 fl, .int .i64 la, .int .i64 sc, .slice ps ns cs, .slice po no co] 26 <| Bc w8.heap.size #[.string S.name, .int .i64 S.eps, .int .i64 S.floor, .int .i64 S.last, .int .i64 S.scale, .slice pa S.segs.length ca, .slice qa S.opn.length va] 26 <| Rc (fun W' => SerIn W' S pa qa) <| Bc w15.heap.size #[.string F.name, .int .i64 F.eps, .int .i64 F.floor, .int .i64 F.last, .int .i64 F.scale, .slice p1 F.segs.length d1, .slice q1 F.opn.length v1] 26 <| Rc (fun W' => SerIn W' F p1 q1) <| Bc w20.heap.size #[.string B.name, .int .i64 B.eps, .int .i64 B.floor, .int .i64 B.last, .int .i64 B.scale, .slice p2 B.segs.length d2, .slice q2 B.opn.length v2] 26 <| Rc (fun W' => SerIn W' B p2 q2) <| Bz) ?_ (hR := (Bc.mk (by exact blkAny2) <| Bc.mk (by exact blkAny2) <| Rc.mk (by exact b3.below (by first | assumption | exact belowAny)) <| Bc.mk (by exact blkAny2) <| Rc.mk (by exact b5.below (by first | assumption | exact belowAny)) <| Bc.mk (by exact blkAny2) <| Rc.mk (by exact b7.below (by first | assumption | exact belowAny)) <| trivial))
    clear b1 b2 b3 b4 b5 b6 b7 hW
    rintro hW z27 ⟨⟨b1, yb1, k1, f1⟩, ⟨b2, yb2, k2, f2⟩, b3, ⟨b4, yb4, k4, f4⟩, b5, ⟨b6, yb6, k6, f6⟩, b7, -⟩
    go_upto_region 9 with (fail)
    clear k1 f1 k2 f2 k4 f4 k6 f6
    refine wp_cutB w (Bc w.heap.size #[.string nm, .int .i64 ep, .int .i64 fl, .int .i64 la, .int .i64 sc, .slice ps ns cs, .slice po no co] 26 <| Bc w8.heap.size #[.string S.name, .int .i64 S.eps, .int .i64 S.floor, .int .i64 S.last, .int .i64 S.scale, .slice pa S.segs.length ca, .slice qa S.opn.length va] 26 <| Rc (fun W' => SerIn W' S pa qa) <| Bc w15.heap.size #[.string F.name, .int .i64 F.eps, .int .i64 F.floor, .int .i64 F.last, .int .i64 F.scale, .slice p1 F.segs.length d1, .slice q1 F.opn.length v1] 26 <| Rc (fun W' => SerIn W' F p1 q1) <| Bc w20.heap.size #[.string B.name, .int .i64 B.eps, .int .i64 B.floor, .int .i64 B.last, .int .i64 B.scale, .slice p2 B.segs.length d2, .slice q2 B.opn.length v2] 26 <| Rc (fun W' => SerIn W' B p2 q2) <| Bc w25.heap.size #[.string O.name, .int .i64 O.eps, .int .i64 O.floor, .int .i64 O.last, .int .i64 O.scale, .slice p3 O.segs.length d3, .slice q3 O.opn.length v3] 26 <| Rc (fun W' => SerIn W' O p3 q3) <| Bz) ?_ (hI := by exact belowAny) (hR := (Bc.mk (by exact blkAny2) <| Bc.mk (by exact blkAny2) <| Rc.mk (by exact b3.below (by first | assumption | exact belowAny)) <| Bc.mk (by exact blkAny2) <| Rc.mk (by exact b5.below (by first | assumption | exact belowAny)) <| Bc.mk (by exact blkAny2) <| Rc.mk (by exact b7.below (by first | assumption | exact belowAny)) <| Bc.mk (by exact blkAny2) <| Rc.mk (by exact h3.below (by exact belowAny)) <| trivial))
    clear b1 b2 b3 b4 b5 b6 b7 hW
    rintro W28 hW z29 ⟨⟨b1, yb1, k1, f1⟩, ⟨b2, yb2, k2, f2⟩, b3, ⟨b4, yb4, k4, f4⟩, b5, ⟨b6, yb6, k6, f6⟩, b7, ⟨b8, yb8, k8, f8⟩, b9, -⟩
    clear h3
    clear c3 c4 c5
    go_wp2_with fail
    refine (c6.out _ p3 d3 q3 v3 b9).mono ?_
    rintro e w30 ⟨p4, d4, q4, v4, rfl, hb30, h4⟩
    have z31 := hb30.size
    try simp at z31
    clear k1 f1 k2 f2 k4 f4 k6 f6 k8 f8
    refine haveB w w30 (Bc w.heap.size #[.string nm, .int .i64 ep, .int .i64 fl, .int .i64 la, .int .i64 sc, .slice ps ns cs, .slice po no co] 26 <| Bc w8.heap.size #[.string S.name, .int .i64 S.eps, .int .i64 S.floor, .int .i64 S.last, .int .i64 S.scale, .slice pa S.segs.length ca, .slice qa S.opn.length va] 26 <| Rc (fun W' => SerIn W' S pa qa) <| Bc w15.heap.size #[.string F.name, .int .i64 F.eps, .int .i64 F.floor, .int .i64 F.last, .int .i64 F.scale, .slice p1 F.segs.length d1, .slice q1 F.opn.length v1] 26 <| Rc (fun W' => SerIn W' F p1 q1) <| Bc w20.heap.size #[.string B.name, .int .i64 B.eps, .int .i64 B.floor, .int .i64 B.last, .int .i64 B.scale, .slice p2 B.segs.length d2, .slice q2 B.opn.length v2] 26 <| Rc (fun W' => SerIn W' B p2 q2) <| Bc w25.heap.size #[.string O.name, .int .i64 O.eps, .int .i64 O.floor, .int .i64 O.last, .int .i64 O.scale, .slice p3 O.segs.length d3, .slice q3 O.opn.length v3] 26 <| Rc (fun W' => SerIn W' O p3 q3) <| Bz) ?_ (hR := (Bc.mk (by exact blkAny2) <| Bc.mk (by exact blkAny2) <| Rc.mk (by exact b3.below (by first | assumption | exact belowAny)) <| Bc.mk (by exact blkAny2) <| Rc.mk (by exact b5.below (by first | assumption | exact belowAny)) <| Bc.mk (by exact blkAny2) <| Rc.mk (by exact b7.below (by first | assumption | exact belowAny)) <| Bc.mk (by exact blkAny2) <| Rc.mk (by exact b9.below (by first | assumption | exact belowAny)) <| trivial))
    clear b1 b2 b3 b4 b5 b6 b7 b8 b9 hW
    rintro hW z32 ⟨⟨b1, yb1, k1, f1⟩, ⟨b2, yb2, k2, f2⟩, b3, ⟨b4, yb4, k4, f4⟩, b5, ⟨b6, yb6, k6, f6⟩, b7, ⟨b8, yb8, k8, f8⟩, b9, -⟩
    go_upto_region 12 with (fail)
    clear k1 f1 k2 f2 k4 f4 k6 f6 k8 f8
    refine wp_cutB w (Bc w.heap.size #[.string nm, .int .i64 ep, .int .i64 fl, .int .i64 la, .int .i64 sc, .slice ps ns cs, .slice po no co] 26 <| Bc w8.heap.size #[.string S.name, .int .i64 S.eps, .int .i64 S.floor, .int .i64 S.last, .int .i64 S.scale, .slice pa S.segs.length ca, .slice qa S.opn.length va] 26 <| Rc (fun W' => SerIn W' S pa qa) <| Bc w15.heap.size #[.string F.name, .int .i64 F.eps, .int .i64 F.floor, .int .i64 F.last, .int .i64 F.scale, .slice p1 F.segs.length d1, .slice q1 F.opn.length v1] 26 <| Rc (fun W' => SerIn W' F p1 q1) <| Bc w20.heap.size #[.string B.name, .int .i64 B.eps, .int .i64 B.floor, .int .i64 B.last, .int .i64 B.scale, .slice p2 B.segs.length d2, .slice q2 B.opn.length v2] 26 <| Rc (fun W' => SerIn W' B p2 q2) <| Bc w25.heap.size #[.string O.name, .int .i64 O.eps, .int .i64 O.floor, .int .i64 O.last, .int .i64 O.scale, .slice p3 O.segs.length d3, .slice q3 O.opn.length v3] 26 <| Rc (fun W' => SerIn W' O p3 q3) <| Bc w30.heap.size #[.string K.name, .int .i64 K.eps, .int .i64 K.floor, .int .i64 K.last, .int .i64 K.scale, .slice p4 K.segs.length d4, .slice q4 K.opn.length v4] 26 <| Rc (fun W' => SerIn W' K p4 q4) <| Bz) ?_ (hI := by exact belowAny) (hR := (Bc.mk (by exact blkAny2) <| Bc.mk (by exact blkAny2) <| Rc.mk (by exact b3.below (by first | assumption | exact belowAny)) <| Bc.mk (by exact blkAny2) <| Rc.mk (by exact b5.below (by first | assumption | exact belowAny)) <| Bc.mk (by exact blkAny2) <| Rc.mk (by exact b7.below (by first | assumption | exact belowAny)) <| Bc.mk (by exact blkAny2) <| Rc.mk (by exact b9.below (by first | assumption | exact belowAny)) <| Bc.mk (by exact blkAny2) <| Rc.mk (by exact h4.below (by exact belowAny)) <| trivial))
    clear b1 b2 b3 b4 b5 b6 b7 b8 b9 hW
    rintro W33 hW z34 ⟨⟨b1, yb1, k1, f1⟩, ⟨b2, yb2, k2, f2⟩, b3, ⟨b4, yb4, k4, f4⟩, b5, ⟨b6, yb6, k6, f6⟩, b7, ⟨b8, yb8, k8, f8⟩, b9, ⟨b10, yb10, k10, f10⟩, b11, -⟩
    clear h4
    go_wp2_with fail
    refine (c7.out _ p2 d2 q2 v2 p3 d3 q3 v3 b7 b9).mono ?_
    rintro e w35 ⟨rfl, hb35⟩
    have z36 := hb35.size
    try simp at z36
    clear k1 f1 k2 f2 k4 f4 k6 f6 k8 f8 k10 f10
    refine haveB w w35 (Bc w.heap.size #[.string nm, .int .i64 ep, .int .i64 fl, .int .i64 la, .int .i64 sc, .slice ps ns cs, .slice po no co] 26 <| Bc w8.heap.size #[.string S.name, .int .i64 S.eps, .int .i64 S.floor, .int .i64 S.last, .int .i64 S.scale, .slice pa S.segs.length ca, .slice qa S.opn.length va] 26 <| Rc (fun W' => SerIn W' S pa qa) <| Bc w15.heap.size #[.string F.name, .int .i64 F.eps, .int .i64 F.floor, .int .i64 F.last, .int .i64 F.scale, .slice p1 F.segs.length d1, .slice q1 F.opn.length v1] 26 <| Rc (fun W' => SerIn W' F p1 q1) <| Bc w20.heap.size #[.string B.name, .int .i64 B.eps, .int .i64 B.floor, .int .i64 B.last, .int .i64 B.scale, .slice p2 B.segs.length d2, .slice q2 B.opn.length v2] 26 <| Rc (fun W' => SerIn W' B p2 q2) <| Bc w25.heap.size #[.string O.name, .int .i64 O.eps, .int .i64 O.floor, .int .i64 O.last, .int .i64 O.scale, .slice p3 O.segs.length d3, .slice q3 O.opn.length v3] 26 <| Rc (fun W' => SerIn W' O p3 q3) <| Bc w30.heap.size #[.string K.name, .int .i64 K.eps, .int .i64 K.floor, .int .i64 K.last, .int .i64 K.scale, .slice p4 K.segs.length d4, .slice q4 K.opn.length v4] 26 <| Rc (fun W' => SerIn W' K p4 q4) <| Bz) ?_ (hR := (Bc.mk (by exact blkAny2) <| Bc.mk (by exact blkAny2) <| Rc.mk (by exact b3.below (by first | assumption | exact belowAny)) <| Bc.mk (by exact blkAny2) <| Rc.mk (by exact b5.below (by first | assumption | exact belowAny)) <| Bc.mk (by exact blkAny2) <| Rc.mk (by exact b7.below (by first | assumption | exact belowAny)) <| Bc.mk (by exact blkAny2) <| Rc.mk (by exact b9.below (by first | assumption | exact belowAny)) <| Bc.mk (by exact blkAny2) <| Rc.mk (by exact b11.below (by first | assumption | exact belowAny)) <| trivial))
    clear b1 b2 b3 b4 b5 b6 b7 b8 b9 b10 b11 hW
    rintro hW z37 ⟨⟨b1, yb1, k1, f1⟩, ⟨b2, yb2, k2, f2⟩, b3, ⟨b4, yb4, k4, f4⟩, b5, ⟨b6, yb6, k6, f6⟩, b7, ⟨b8, yb8, k8, f8⟩, b9, ⟨b10, yb10, k10, f10⟩, b11, -⟩
    clear hb35
    go_wp2_with fail
    refine (c8.out _ p4 d4 q4 v4 p3 d3 q3 v3 b11 b9).mono ?_
    rintro e w38 ⟨rfl, hb38⟩
    have z39 := hb38.size
    try simp at z39
    clear k1 f1 k2 f2 k4 f4 k6 f6 k8 f8 k10 f10
    refine haveB w w38 (Bc w.heap.size #[.string nm, .int .i64 ep, .int .i64 fl, .int .i64 la, .int .i64 sc, .slice ps ns cs, .slice po no co] 26 <| Bc w8.heap.size #[.string S.name, .int .i64 S.eps, .int .i64 S.floor, .int .i64 S.last, .int .i64 S.scale, .slice pa S.segs.length ca, .slice qa S.opn.length va] 26 <| Rc (fun W' => SerIn W' S pa qa) <| Bc w15.heap.size #[.string F.name, .int .i64 F.eps, .int .i64 F.floor, .int .i64 F.last, .int .i64 F.scale, .slice p1 F.segs.length d1, .slice q1 F.opn.length v1] 26 <| Rc (fun W' => SerIn W' F p1 q1) <| Bc w20.heap.size #[.string B.name, .int .i64 B.eps, .int .i64 B.floor, .int .i64 B.last, .int .i64 B.scale, .slice p2 B.segs.length d2, .slice q2 B.opn.length v2] 26 <| Rc (fun W' => SerIn W' B p2 q2) <| Bc w25.heap.size #[.string O.name, .int .i64 O.eps, .int .i64 O.floor, .int .i64 O.last, .int .i64 O.scale, .slice p3 O.segs.length d3, .slice q3 O.opn.length v3] 26 <| Rc (fun W' => SerIn W' O p3 q3) <| Bc w30.heap.size #[.string K.name, .int .i64 K.eps, .int .i64 K.floor, .int .i64 K.last, .int .i64 K.scale, .slice p4 K.segs.length d4, .slice q4 K.opn.length v4] 26 <| Rc (fun W' => SerIn W' K p4 q4) <| Bz) ?_ (hR := (Bc.mk (by exact blkAny2) <| Bc.mk (by exact blkAny2) <| Rc.mk (by exact b3.below (by first | assumption | exact belowAny)) <| Bc.mk (by exact blkAny2) <| Rc.mk (by exact b5.below (by first | assumption | exact belowAny)) <| Bc.mk (by exact blkAny2) <| Rc.mk (by exact b7.below (by first | assumption | exact belowAny)) <| Bc.mk (by exact blkAny2) <| Rc.mk (by exact b9.below (by first | assumption | exact belowAny)) <| Bc.mk (by exact blkAny2) <| Rc.mk (by exact b11.below (by first | assumption | exact belowAny)) <| trivial))
    clear b1 b2 b3 b4 b5 b6 b7 b8 b9 b10 b11 hW
    rintro hW z40 ⟨⟨b1, yb1, k1, f1⟩, ⟨b2, yb2, k2, f2⟩, b3, ⟨b4, yb4, k4, f4⟩, b5, ⟨b6, yb6, k6, f6⟩, b7, ⟨b8, yb8, k8, f8⟩, b9, ⟨b10, yb10, k10, f10⟩, b11, -⟩
    clear hb38
    go_wp2
    refine bodyPost_ret (by simp [results, Tryz.results10, go_sem, k1, f1, k2, f2, k4, f4, k6, f6, k8, f8, k10, f10, yb1, yb2, yb4, yb6, yb8, yb10]) rfl ⟨rfl, by exact belowAny⟩
  · subst hE1
    subst hE2
    subst hE3
    subst hE4
    go_enter Tryz.func10, Tryz.ntmps10
    go_upto_region 1 with (fail)
    refine wp_cutB w (Bc w.heap.size #[.string nm, .int .i64 ep, .int .i64 fl, .int .i64 la, .int .i64 sc, .slice ps ns cs, .slice po no co] 26 <| Bz) ?_
    rintro W1 hW z2 ⟨⟨b1, yb1, k1, f1⟩, -⟩
    go_wp2_with fail
    refine (c1.out _ belowAny).mono ?_
    rintro e w3 ⟨rfl, hb3⟩
    have z4 := hb3.size
    try simp at z4
    clear k1 f1
    refine haveB w w3 (Bc w.heap.size #[.string nm, .int .i64 ep, .int .i64 fl, .int .i64 la, .int .i64 sc, .slice ps ns cs, .slice po no co] 26 <| Bz) ?_
    clear b1 hW
    rintro hW z5 ⟨⟨b1, yb1, k1, f1⟩, -⟩
    clear hb3
    go_upto_region 3 with (fail)
    clear k1 f1
    refine wp_cutB w (Bc w.heap.size #[.string nm, .int .i64 ep, .int .i64 fl, .int .i64 la, .int .i64 sc, .slice ps ns cs, .slice po no co] 26 <| Bz) ?_
    clear b1 hW
    rintro W6 hW z7 ⟨⟨b1, yb1, k1, f1⟩, -⟩
    go_wp2_with fail
    refine (c2.out _ hW).mono ?_
    rintro e w8 ⟨v, rfl, hb8, hO⟩
    have z9 := hb8.size
    try simp at z9
    clear k1 f1
    refine haveB w w8 (Bc w.heap.size #[.string nm, .int .i64 ep, .int .i64 fl, .int .i64 la, .int .i64 sc, .slice ps ns cs, .slice po no co] 26 <| Bz) ?_
    clear b1 hW
    rintro hW z10 ⟨⟨b1, yb1, k1, f1⟩, -⟩
    obtain ⟨pa, qa, ca, va, rfl, hO⟩ := hO
    replace hO := hO.inn
    unfold serA
    clear c2 c1
    go_upto_region 4 with (fail)
    clear k1 f1
    refine wp_cutB w (Bc w.heap.size #[.string nm, .int .i64 ep, .int .i64 fl, .int .i64 la, .int .i64 sc, .slice ps ns cs, .slice po no co] 26 <| Bc w8.heap.size #[.string S.name, .int .i64 S.eps, .int .i64 S.floor, .int .i64 S.last, .int .i64 S.scale, .slice pa S.segs.length ca, .slice qa S.opn.length va] 26 <| Rc (fun W' => SerIn W' S pa qa) <| Bz) ?_ (hI := by exact belowAny) (hR := (Bc.mk (by exact blkAny2) <| Bc.mk (by exact blkAny2) <| Rc.mk (by exact hO.below (by exact belowAny)) <| trivial))
    clear b1 hW
    rintro W11 hW z12 ⟨⟨b1, yb1, k1, f1⟩, ⟨b2, yb2, k2, f2⟩, b3, -⟩
    clear hO
    go_upto_region 6 with (fail)
    clear k1 f1 k2 f2
    refine wp_cutB w (Bc w.heap.size #[.string nm, .int .i64 ep, .int .i64 fl, .int .i64 la, .int .i64 sc, .slice ps ns cs, .slice po no co] 26 <| Bc w8.heap.size #[.string S.name, .int .i64 S.eps, .int .i64 S.floor, .int .i64 S.last, .int .i64 S.scale, .slice pa S.segs.length ca, .slice qa S.opn.length va] 26 <| Rc (fun W' => SerIn W' S pa qa) <| Bz) ?_ (hI := by exact belowAny) (hR := (Bc.mk (by exact blkAny2) <| Bc.mk (by exact blkAny2) <| Rc.mk (by exact b3.below (by first | assumption | exact belowAny)) <| trivial))
    clear b1 b2 b3 hW
    rintro W13 hW z14 ⟨⟨b1, yb1, k1, f1⟩, ⟨b2, yb2, k2, f2⟩, b3, -⟩
    go_wp2_with fail
    refine (c3.out _ pa ca qa va b3).mono ?_
    rintro e w15 ⟨p1, d1, q1, v1, rfl, hb15, h1⟩
    have z16 := hb15.size
    try simp at z16
    clear k1 f1 k2 f2
    refine haveB w w15 (Bc w.heap.size #[.string nm, .int .i64 ep, .int .i64 fl, .int .i64 la, .int .i64 sc, .slice ps ns cs, .slice po no co] 26 <| Bc w8.heap.size #[.string S.name, .int .i64 S.eps, .int .i64 S.floor, .int .i64 S.last, .int .i64 S.scale, .slice pa S.segs.length ca, .slice qa S.opn.length va] 26 <| Rc (fun W' => SerIn W' S pa qa) <| Bz) ?_ (hR := (Bc.mk (by exact blkAny2) <| Bc.mk (by exact blkAny2) <| Rc.mk (by exact b3.below (by first | assumption | exact belowAny)) <| trivial))
    clear b1 b2 b3 hW
    rintro hW z17 ⟨⟨b1, yb1, k1, f1⟩, ⟨b2, yb2, k2, f2⟩, b3, -⟩
    go_upto_region 7 with (fail)
    clear k1 f1 k2 f2
    refine wp_cutB w (Bc w.heap.size #[.string nm, .int .i64 ep, .int .i64 fl, .int .i64 la, .int .i64 sc, .slice ps ns cs, .slice po no co] 26 <| Bc w8.heap.size #[.string S.name, .int .i64 S.eps, .int .i64 S.floor, .int .i64 S.last, .int .i64 S.scale, .slice pa S.segs.length ca, .slice qa S.opn.length va] 26 <| Rc (fun W' => SerIn W' S pa qa) <| Bc w15.heap.size #[.string F.name, .int .i64 F.eps, .int .i64 F.floor, .int .i64 F.last, .int .i64 F.scale, .slice p1 F.segs.length d1, .slice q1 F.opn.length v1] 26 <| Rc (fun W' => SerIn W' F p1 q1) <| Bz) ?_ (hI := by exact belowAny) (hR := (Bc.mk (by exact blkAny2) <| Bc.mk (by exact blkAny2) <| Rc.mk (by exact b3.below (by first | assumption | exact belowAny)) <| Bc.mk (by exact blkAny2) <| Rc.mk (by exact h1.below (by exact belowAny)) <| trivial))
    clear b1 b2 b3 hW
    rintro W18 hW z19 ⟨⟨b1, yb1, k1, f1⟩, ⟨b2, yb2, k2, f2⟩, b3, ⟨b4, yb4, k4, f4⟩, b5, -⟩
    clear h1
    go_wp2_with fail
    refine (c4.out _ p1 d1 q1 v1 b5).mono ?_
    rintro e w20 ⟨p2, d2, q2, v2, rfl, hb20, h2⟩
    have z21 := hb20.size
    try simp at z21
    clear k1 f1 k2 f2 k4 f4
    refine haveB w w20 (Bc w.heap.size #[.string nm, .int .i64 ep, .int .i64 fl, .int .i64 la, .int .i64 sc, .slice ps ns cs, .slice po no co] 26 <| Bc w8.heap.size #[.string S.name, .int .i64 S.eps, .int .i64 S.floor, .int .i64 S.last, .int .i64 S.scale, .slice pa S.segs.length ca, .slice qa S.opn.length va] 26 <| Rc (fun W' => SerIn W' S pa qa) <| Bc w15.heap.size #[.string F.name, .int .i64 F.eps, .int .i64 F.floor, .int .i64 F.last, .int .i64 F.scale, .slice p1 F.segs.length d1, .slice q1 F.opn.length v1] 26 <| Rc (fun W' => SerIn W' F p1 q1) <| Bz) ?_ (hR := (Bc.mk (by exact blkAny2) <| Bc.mk (by exact blkAny2) <| Rc.mk (by exact b3.below (by first | assumption | exact belowAny)) <| Bc.mk (by exact blkAny2) <| Rc.mk (by exact b5.below (by first | assumption | exact belowAny)) <| trivial))
    clear b1 b2 b3 b4 b5 hW
    rintro hW z22 ⟨⟨b1, yb1, k1, f1⟩, ⟨b2, yb2, k2, f2⟩, b3, ⟨b4, yb4, k4, f4⟩, b5, -⟩
    go_upto_region 8 with (fail)
    clear k1 f1 k2 f2 k4 f4
    refine wp_cutB w (Bc w.heap.size #[.string nm, .int .i64 ep, .int .i64 fl, .int .i64 la, .int .i64 sc, .slice ps ns cs, .slice po no co] 26 <| Bc w8.heap.size #[.string S.name, .int .i64 S.eps, .int .i64 S.floor, .int .i64 S.last, .int .i64 S.scale, .slice pa S.segs.length ca, .slice qa S.opn.length va] 26 <| Rc (fun W' => SerIn W' S pa qa) <| Bc w15.heap.size #[.string F.name, .int .i64 F.eps, .int .i64 F.floor, .int .i64 F.last, .int .i64 F.scale, .slice p1 F.segs.length d1, .slice q1 F.opn.length v1] 26 <| Rc (fun W' => SerIn W' F p1 q1) <| Bc w20.heap.size #[.string B.name, .int .i64 B.eps, .int .i64 B.floor, .int .i64 B.last, .int .i64 B.scale, .slice p2 B.segs.length d2, .slice q2 B.opn.length v2] 26 <| Rc (fun W' => SerIn W' B p2 q2) <| Bz) ?_ (hI := by exact belowAny) (hR := (Bc.mk (by exact blkAny2) <| Bc.mk (by exact blkAny2) <| Rc.mk (by exact b3.below (by first | assumption | exact belowAny)) <| Bc.mk (by exact blkAny2) <| Rc.mk (by exact b5.below (by first | assumption | exact belowAny)) <| Bc.mk (by exact blkAny2) <| Rc.mk (by exact h2.below (by exact belowAny)) <| trivial))
    clear b1 b2 b3 b4 b5 hW
    rintro W23 hW z24 ⟨⟨b1, yb1, k1, f1⟩, ⟨b2, yb2, k2, f2⟩, b3, ⟨b4, yb4, k4, f4⟩, b5, ⟨b6, yb6, k6, f6⟩, b7, -⟩
    clear h2
    go_wp2_with fail
    refine (c5.out _ pa ca qa va b3).mono ?_
    rintro e w25 ⟨p3, d3, q3, v3, rfl, hb25, h3⟩
    have z26 := hb25.size
    try simp at z26
    clear k1 f1 k2 f2 k4 f4 k6 f6
    refine haveB w w25 (Bc w.heap.size #[.string nm, .int .i64 ep, .int .i64 fl, .int .i64 la, .int .i64 sc, .slice ps ns cs, .slice po no co] 26 <| Bc w8.heap.size #[.string S.name, .int .i64 S.eps, .int .i64 S.floor, .int .i64 S.last, .int .i64 S.scale, .slice pa S.segs.length ca, .slice qa S.opn.length va] 26 <| Rc (fun W' => SerIn W' S pa qa) <| Bc w15.heap.size #[.string F.name, .int .i64 F.eps, .int .i64 F.floor, .int .i64 F.last, .int .i64 F.scale, .slice p1 F.segs.length d1, .slice q1 F.opn.length v1] 26 <| Rc (fun W' => SerIn W' F p1 q1) <| Bc w20.heap.size #[.string B.name, .int .i64 B.eps, .int .i64 B.floor, .int .i64 B.last, .int .i64 B.scale, .slice p2 B.segs.length d2, .slice q2 B.opn.length v2] 26 <| Rc (fun W' => SerIn W' B p2 q2) <| Bz) ?_ (hR := (Bc.mk (by exact blkAny2) <| Bc.mk (by exact blkAny2) <| Rc.mk (by exact b3.below (by first | assumption | exact belowAny)) <| Bc.mk (by exact blkAny2) <| Rc.mk (by exact b5.below (by first | assumption | exact belowAny)) <| Bc.mk (by exact blkAny2) <| Rc.mk (by exact b7.below (by first | assumption | exact belowAny)) <| trivial))
    clear b1 b2 b3 b4 b5 b6 b7 hW
    rintro hW z27 ⟨⟨b1, yb1, k1, f1⟩, ⟨b2, yb2, k2, f2⟩, b3, ⟨b4, yb4, k4, f4⟩, b5, ⟨b6, yb6, k6, f6⟩, b7, -⟩
    go_upto_region 9 with (fail)
    clear k1 f1 k2 f2 k4 f4 k6 f6
    refine wp_cutB w (Bc w.heap.size #[.string nm, .int .i64 ep, .int .i64 fl, .int .i64 la, .int .i64 sc, .slice ps ns cs, .slice po no co] 26 <| Bc w8.heap.size #[.string S.name, .int .i64 S.eps, .int .i64 S.floor, .int .i64 S.last, .int .i64 S.scale, .slice pa S.segs.length ca, .slice qa S.opn.length va] 26 <| Rc (fun W' => SerIn W' S pa qa) <| Bc w15.heap.size #[.string F.name, .int .i64 F.eps, .int .i64 F.floor, .int .i64 F.last, .int .i64 F.scale, .slice p1 F.segs.length d1, .slice q1 F.opn.length v1] 26 <| Rc (fun W' => SerIn W' F p1 q1) <| Bc w20.heap.size #[.string B.name, .int .i64 B.eps, .int .i64 B.floor, .int .i64 B.last, .int .i64 B.scale, .slice p2 B.segs.length d2, .slice q2 B.opn.length v2] 26 <| Rc (fun W' => SerIn W' B p2 q2) <| Bc w25.heap.size #[.string O.name, .int .i64 O.eps, .int .i64 O.floor, .int .i64 O.last, .int .i64 O.scale, .slice p3 O.segs.length d3, .slice q3 O.opn.length v3] 26 <| Rc (fun W' => SerIn W' O p3 q3) <| Bz) ?_ (hI := by exact belowAny) (hR := (Bc.mk (by exact blkAny2) <| Bc.mk (by exact blkAny2) <| Rc.mk (by exact b3.below (by first | assumption | exact belowAny)) <| Bc.mk (by exact blkAny2) <| Rc.mk (by exact b5.below (by first | assumption | exact belowAny)) <| Bc.mk (by exact blkAny2) <| Rc.mk (by exact b7.below (by first | assumption | exact belowAny)) <| Bc.mk (by exact blkAny2) <| Rc.mk (by exact h3.below (by exact belowAny)) <| trivial))
    clear b1 b2 b3 b4 b5 b6 b7 hW
    rintro W28 hW z29 ⟨⟨b1, yb1, k1, f1⟩, ⟨b2, yb2, k2, f2⟩, b3, ⟨b4, yb4, k4, f4⟩, b5, ⟨b6, yb6, k6, f6⟩, b7, ⟨b8, yb8, k8, f8⟩, b9, -⟩
    clear h3
    clear c3 c4 c5
    go_wp2_with fail
    refine (c6.out _ p3 d3 q3 v3 b9).mono ?_
    rintro e w30 ⟨p4, d4, q4, v4, rfl, hb30, h4⟩
    have z31 := hb30.size
    try simp at z31
    clear k1 f1 k2 f2 k4 f4 k6 f6 k8 f8
    refine haveB w w30 (Bc w.heap.size #[.string nm, .int .i64 ep, .int .i64 fl, .int .i64 la, .int .i64 sc, .slice ps ns cs, .slice po no co] 26 <| Bc w8.heap.size #[.string S.name, .int .i64 S.eps, .int .i64 S.floor, .int .i64 S.last, .int .i64 S.scale, .slice pa S.segs.length ca, .slice qa S.opn.length va] 26 <| Rc (fun W' => SerIn W' S pa qa) <| Bc w15.heap.size #[.string F.name, .int .i64 F.eps, .int .i64 F.floor, .int .i64 F.last, .int .i64 F.scale, .slice p1 F.segs.length d1, .slice q1 F.opn.length v1] 26 <| Rc (fun W' => SerIn W' F p1 q1) <| Bc w20.heap.size #[.string B.name, .int .i64 B.eps, .int .i64 B.floor, .int .i64 B.last, .int .i64 B.scale, .slice p2 B.segs.length d2, .slice q2 B.opn.length v2] 26 <| Rc (fun W' => SerIn W' B p2 q2) <| Bc w25.heap.size #[.string O.name, .int .i64 O.eps, .int .i64 O.floor, .int .i64 O.last, .int .i64 O.scale, .slice p3 O.segs.length d3, .slice q3 O.opn.length v3] 26 <| Rc (fun W' => SerIn W' O p3 q3) <| Bz) ?_ (hR := (Bc.mk (by exact blkAny2) <| Bc.mk (by exact blkAny2) <| Rc.mk (by exact b3.below (by first | assumption | exact belowAny)) <| Bc.mk (by exact blkAny2) <| Rc.mk (by exact b5.below (by first | assumption | exact belowAny)) <| Bc.mk (by exact blkAny2) <| Rc.mk (by exact b7.below (by first | assumption | exact belowAny)) <| Bc.mk (by exact blkAny2) <| Rc.mk (by exact b9.below (by first | assumption | exact belowAny)) <| trivial))
    clear b1 b2 b3 b4 b5 b6 b7 b8 b9 hW
    rintro hW z32 ⟨⟨b1, yb1, k1, f1⟩, ⟨b2, yb2, k2, f2⟩, b3, ⟨b4, yb4, k4, f4⟩, b5, ⟨b6, yb6, k6, f6⟩, b7, ⟨b8, yb8, k8, f8⟩, b9, -⟩
    go_upto_region 12 with (fail)
    clear k1 f1 k2 f2 k4 f4 k6 f6 k8 f8
    refine wp_cutB w (Bc w.heap.size #[.string nm, .int .i64 ep, .int .i64 fl, .int .i64 la, .int .i64 sc, .slice ps ns cs, .slice po no co] 26 <| Bc w8.heap.size #[.string S.name, .int .i64 S.eps, .int .i64 S.floor, .int .i64 S.last, .int .i64 S.scale, .slice pa S.segs.length ca, .slice qa S.opn.length va] 26 <| Rc (fun W' => SerIn W' S pa qa) <| Bc w15.heap.size #[.string F.name, .int .i64 F.eps, .int .i64 F.floor, .int .i64 F.last, .int .i64 F.scale, .slice p1 F.segs.length d1, .slice q1 F.opn.length v1] 26 <| Rc (fun W' => SerIn W' F p1 q1) <| Bc w20.heap.size #[.string B.name, .int .i64 B.eps, .int .i64 B.floor, .int .i64 B.last, .int .i64 B.scale, .slice p2 B.segs.length d2, .slice q2 B.opn.length v2] 26 <| Rc (fun W' => SerIn W' B p2 q2) <| Bc w25.heap.size #[.string O.name, .int .i64 O.eps, .int .i64 O.floor, .int .i64 O.last, .int .i64 O.scale, .slice p3 O.segs.length d3, .slice q3 O.opn.length v3] 26 <| Rc (fun W' => SerIn W' O p3 q3) <| Bc w30.heap.size #[.string K.name, .int .i64 K.eps, .int .i64 K.floor, .int .i64 K.last, .int .i64 K.scale, .slice p4 K.segs.length d4, .slice q4 K.opn.length v4] 26 <| Rc (fun W' => SerIn W' K p4 q4) <| Bz) ?_ (hI := by exact belowAny) (hR := (Bc.mk (by exact blkAny2) <| Bc.mk (by exact blkAny2) <| Rc.mk (by exact b3.below (by first | assumption | exact belowAny)) <| Bc.mk (by exact blkAny2) <| Rc.mk (by exact b5.below (by first | assumption | exact belowAny)) <| Bc.mk (by exact blkAny2) <| Rc.mk (by exact b7.below (by first | assumption | exact belowAny)) <| Bc.mk (by exact blkAny2) <| Rc.mk (by exact b9.below (by first | assumption | exact belowAny)) <| Bc.mk (by exact blkAny2) <| Rc.mk (by exact h4.below (by exact belowAny)) <| trivial))
    clear b1 b2 b3 b4 b5 b6 b7 b8 b9 hW
    rintro W33 hW z34 ⟨⟨b1, yb1, k1, f1⟩, ⟨b2, yb2, k2, f2⟩, b3, ⟨b4, yb4, k4, f4⟩, b5, ⟨b6, yb6, k6, f6⟩, b7, ⟨b8, yb8, k8, f8⟩, b9, ⟨b10, yb10, k10, f10⟩, b11, -⟩
    clear h4
    go_wp2_with fail
    refine (c7.out _ p2 d2 q2 v2 p3 d3 q3 v3 b7 b9).mono ?_
    rintro e w35 ⟨rfl, hb35⟩
    have z36 := hb35.size
    try simp at z36
    clear k1 f1 k2 f2 k4 f4 k6 f6 k8 f8 k10 f10
    refine haveB w w35 (Bc w.heap.size #[.string nm, .int .i64 ep, .int .i64 fl, .int .i64 la, .int .i64 sc, .slice ps ns cs, .slice po no co] 26 <| Bc w8.heap.size #[.string S.name, .int .i64 S.eps, .int .i64 S.floor, .int .i64 S.last, .int .i64 S.scale, .slice pa S.segs.length ca, .slice qa S.opn.length va] 26 <| Rc (fun W' => SerIn W' S pa qa) <| Bc w15.heap.size #[.string F.name, .int .i64 F.eps, .int .i64 F.floor, .int .i64 F.last, .int .i64 F.scale, .slice p1 F.segs.length d1, .slice q1 F.opn.length v1] 26 <| Rc (fun W' => SerIn W' F p1 q1) <| Bc w20.heap.size #[.string B.name, .int .i64 B.eps, .int .i64 B.floor, .int .i64 B.last, .int .i64 B.scale, .slice p2 B.segs.length d2, .slice q2 B.opn.length v2] 26 <| Rc (fun W' => SerIn W' B p2 q2) <| Bc w25.heap.size #[.string O.name, .int .i64 O.eps, .int .i64 O.floor, .int .i64 O.last, .int .i64 O.scale, .slice p3 O.segs.length d3, .slice q3 O.opn.length v3] 26 <| Rc (fun W' => SerIn W' O p3 q3) <| Bc w30.heap.size #[.string K.name, .int .i64 K.eps, .int .i64 K.floor, .int .i64 K.last, .int .i64 K.scale, .slice p4 K.segs.length d4, .slice q4 K.opn.length v4] 26 <| Rc (fun W' => SerIn W' K p4 q4) <| Bz) ?_ (hR := (Bc.mk (by exact blkAny2) <| Bc.mk (by exact blkAny2) <| Rc.mk (by exact b3.below (by first | assumption | exact belowAny)) <| Bc.mk (by exact blkAny2) <| Rc.mk (by exact b5.below (by first | assumption | exact belowAny)) <| Bc.mk (by exact blkAny2) <| Rc.mk (by exact b7.below (by first | assumption | exact belowAny)) <| Bc.mk (by exact blkAny2) <| Rc.mk (by exact b9.below (by first | assumption | exact belowAny)) <| Bc.mk (by exact blkAny2) <| Rc.mk (by exact b11.below (by first | assumption | exact belowAny)) <| trivial))
    clear b1 b2 b3 b4 b5 b6 b7 b8 b9 b10 b11 hW
    rintro hW z37 ⟨⟨b1, yb1, k1, f1⟩, ⟨b2, yb2, k2, f2⟩, b3, ⟨b4, yb4, k4, f4⟩, b5, ⟨b6, yb6, k6, f6⟩, b7, ⟨b8, yb8, k8, f8⟩, b9, ⟨b10, yb10, k10, f10⟩, b11, -⟩
    clear hb35
    go_wp2_with fail
    refine (c8.out _ p4 d4 q4 v4 p3 d3 q3 v3 b11 b9).mono ?_
    rintro e w38 ⟨rfl, hb38⟩
    have z39 := hb38.size
    try simp at z39
    clear k1 f1 k2 f2 k4 f4 k6 f6 k8 f8 k10 f10
    refine haveB w w38 (Bc w.heap.size #[.string nm, .int .i64 ep, .int .i64 fl, .int .i64 la, .int .i64 sc, .slice ps ns cs, .slice po no co] 26 <| Bc w8.heap.size #[.string S.name, .int .i64 S.eps, .int .i64 S.floor, .int .i64 S.last, .int .i64 S.scale, .slice pa S.segs.length ca, .slice qa S.opn.length va] 26 <| Rc (fun W' => SerIn W' S pa qa) <| Bc w15.heap.size #[.string F.name, .int .i64 F.eps, .int .i64 F.floor, .int .i64 F.last, .int .i64 F.scale, .slice p1 F.segs.length d1, .slice q1 F.opn.length v1] 26 <| Rc (fun W' => SerIn W' F p1 q1) <| Bc w20.heap.size #[.string B.name, .int .i64 B.eps, .int .i64 B.floor, .int .i64 B.last, .int .i64 B.scale, .slice p2 B.segs.length d2, .slice q2 B.opn.length v2] 26 <| Rc (fun W' => SerIn W' B p2 q2) <| Bc w25.heap.size #[.string O.name, .int .i64 O.eps, .int .i64 O.floor, .int .i64 O.last, .int .i64 O.scale, .slice p3 O.segs.length d3, .slice q3 O.opn.length v3] 26 <| Rc (fun W' => SerIn W' O p3 q3) <| Bc w30.heap.size #[.string K.name, .int .i64 K.eps, .int .i64 K.floor, .int .i64 K.last, .int .i64 K.scale, .slice p4 K.segs.length d4, .slice q4 K.opn.length v4] 26 <| Rc (fun W' => SerIn W' K p4 q4) <| Bz) ?_ (hR := (Bc.mk (by exact blkAny2) <| Bc.mk (by exact blkAny2) <| Rc.mk (by exact b3.below (by first | assumption | exact belowAny)) <| Bc.mk (by exact blkAny2) <| Rc.mk (by exact b5.below (by first | assumption | exact belowAny)) <| Bc.mk (by exact blkAny2) <| Rc.mk (by exact b7.below (by first | assumption | exact belowAny)) <| Bc.mk (by exact blkAny2) <| Rc.mk (by exact b9.below (by first | assumption | exact belowAny)) <| Bc.mk (by exact blkAny2) <| Rc.mk (by exact b11.below (by first | assumption | exact belowAny)) <| trivial))
    clear b1 b2 b3 b4 b5 b6 b7 b8 b9 b10 b11 hW
    rintro hW z40 ⟨⟨b1, yb1, k1, f1⟩, ⟨b2, yb2, k2, f2⟩, b3, ⟨b4, yb4, k4, f4⟩, b5, ⟨b6, yb6, k6, f6⟩, b7, ⟨b8, yb8, k8, f8⟩, b9, ⟨b10, yb10, k10, f10⟩, b11, -⟩
    clear hb38
    go_wp2
    refine bodyPost_ret (by simp [results, Tryz.results10, go_sem, k1, f1, k2, f2, k4, f4, k6, f6, k8, f8, k10, f10, yb1, yb2, yb4, yb6, yb8, yb10]) rfl ⟨rfl, by exact belowAny⟩
end Go.Proofs.YtpdhdjlhicceoaaGreatDoor
