/- The functions that the law reaches, as plain functions, each with its contract: printed by a program of the prover's. No conditions: lemmas. -/
import Derived.Test.YtkieinlcpkpcjaaWCountParses0
set_option linter.unusedVariables false
set_option linter.unusedSimpArgs false
namespace Go.Proofs.Ytkieinlcpkpcjaa
open Go Go.Proofs.GL
def spec_l14Cell.l1 (p0 : List ((Int) × (List (Int)))) (p1 : List (List (Int))) (p3 : List (Int)) (p4 : Int) (p6 : Int) (p7 : Int) : Nat → Int → Int → Option Int
 | 0, _, _ => none
 | kf + 1, x429, x430 => if (decide (x430 ≤ p7)) = true then ((rd? p1 (IntKind.i64.wrap (p4 - 1))).bind fun u450 => (rd? u450 (IntKind.i64.wrap ((IntKind.i64.wrap (x430 * (IntKind.i64.wrap ((p3.length : Int) + 1)))) + p7))).bind fun u452 => (spec_l5First.f p0 p4).bind fun u453 => (rd? p1 u453).bind fun u454 => (rd? u454 (IntKind.i64.wrap ((IntKind.i64.wrap (p6 * (IntKind.i64.wrap ((p3.length : Int) + 1)))) + x430))).bind fun u456 => (spec_l1Least.f 1000000 (IntKind.i64.wrap (x429 + (IntKind.i64.wrap (u456 * u452))))).bind fun u457 => spec_l14Cell.l1 p0 p1 p3 p4 p6 p7 kf u457 (IntKind.i64.wrap (x430 + 1))) else (some x429)
def spec_l14Cell.l2 (p1 : List (List (Int))) (p2 : List (Int)) (p3 : List (Int)) (p4 : Int) (p6 : Int) (p7 : Int) : Nat → Int → Int → Option Int
 | 0, _, _ => none
 | kf + 1, x605, x606 => if (decide (x606 ≤ p7)) = true then ((if (decide (x606 < p7)) = true then ((rd? p2 (IntKind.i64.wrap ((IntKind.i64.wrap (x606 * (IntKind.i64.wrap ((p3.length : Int) + 1)))) + p7))).bind fun u670 => some u670) else (some 1)).bind fun (o : Int) => match o with | x667 => ((rd? p1 (IntKind.i64.wrap (p4 - 1))).bind fun u672 => (rd? u672 (IntKind.i64.wrap ((IntKind.i64.wrap (p6 * (IntKind.i64.wrap ((p3.length : Int) + 1)))) + x606))).bind fun u674 => (spec_l1Least.f 1000000 (IntKind.i64.wrap (x605 + (IntKind.i64.wrap (u674 * x667))))).bind fun u675 => spec_l14Cell.l2 p1 p2 p3 p4 p6 p7 kf u675 (IntKind.i64.wrap (x606 + 1)))) else (some x605)
def spec_l14Cell.f (p0 : List ((Int) × (List (Int)))) (p1 : List (List (Int))) (p2 : List (Int)) (p3 : List (Int)) (p4 : Int) (p5_0 : Int) (p5_1 : List (Int)) (p6 : Int) (p7 : Int) : Option Int := (if (p5_0 == 1) = true then (if (p6 == p7) = true then ((some 1).bind fun z => some (Lo.ret z)) else (some (Lo.go 0))) else (if (p5_0 == 2) = true then ((if (p7 == (IntKind.i64.wrap (p6 + 1))) = true then ((rd? p3 p6).bind fun u356 => (spec_l4In.f p5_1 u356).bind fun u357 => some u357) else (some false)).bind fun (o : Bool) => match o with | x354 => (if x354 = true then ((some 1).bind fun z => some (Lo.ret z)) else (some (Lo.go 0)))) else (if (p5_0 == 4) = true then ((rd? p1 (IntKind.i64.wrap (p4 - 1))).bind fun u364 => (rd? u364 (IntKind.i64.wrap ((IntKind.i64.wrap (p6 * (IntKind.i64.wrap ((p3.length : Int) + 1)))) + p7))).bind fun u366 => (spec_l5First.f p0 p4).bind fun u367 => (rd? p1 u367).bind fun u368 => (rd? u368 (IntKind.i64.wrap ((IntKind.i64.wrap (p6 * (IntKind.i64.wrap ((p3.length : Int) + 1)))) + p7))).bind fun u370 => (some (IntKind.i64.wrap (u370 + u366))).bind fun z => some (Lo.ret z)) else (if (p5_0 == 3) = true then ((spec_l14Cell.l1 p0 p1 p3 p4 p6 p7 (((p7) - (p6)).toNat + 2) 0 p6).bind fun (o : Int) => match o with | x416 => (some (Lo.go x416))) else (if (p5_0 == 6) = true then (if (p6 == p7) = true then ((some 1).bind fun z => some (Lo.ret z)) else ((spec_l14Cell.l2 p1 p2 p3 p4 p6 p7 (((p7) - (IntKind.i64.wrap (p6 + 1))).toNat + 2) 0 (IntKind.i64.wrap (p6 + 1))).bind fun (o : Int) => match o with | x571 => (some (Lo.go x571)))) else (some (Lo.go 0))))))).bind fun (o : Lo Int Int) => match o with | .go x341 => (some x341) | .ret z => some z
def spec_l14Cell.post (sb s : St) (F0 : Fp) (r : Int) : Value → St → Prop := fun v s' => v = .int .i64 r ∧ Hp sb s F0 s' []
set_option maxRecDepth 100000 in
set_option maxHeartbeats 4000000 in
theorem spec_l14Cell.ok (sb s : St) (F0 : Fp) (A0p : Option Addr) (c0p : Nat) (p0 : List ((Int) × (List (Int)))) (A1p : Option Addr) (c1p : Nat) (p1 : List (List (Int))) (A2p : Option Addr) (c2p : Nat) (p2 : List (Int)) (A3p : Option Addr) (c3p : Nat) (p3 : List (Int)) (p4 : Int) (p5_0 : Int) (A5_1p : Option Addr) (c5_1p : Nat) (p5_1 : List (Int)) (p6 : Int) (p7 : Int) (HRp0 : Rd KS139 sb A0p c0p p0) (HRp1 : Rd (Kd.sl KI) sb A1p c1p p1) (HRp2 : Rd KI sb A2p c2p p2) (HRp3 : Rd KI sb A3p c3p p3) (HRp5_1 : Rd KI sb A5_1p c5_1p p5_1) (hH : Hp sb s F0 s []) (r : Int) (H : spec_l14Cell.f p0 p1 p2 p3 p4 p5_0 p5_1 p6 p7 = some r) : GCall Try.prog 199 #[.slice A0p p0.length c0p, .slice A1p p1.length c1p, .slice A2p p2.length c2p, .slice A3p p3.length c3p, .int .i64 p4, .agg #[.int .i64 p5_0, .slice A5_1p p5_1.length c5_1p], .int .i64 p6, .int .i64 p7] s (spec_l14Cell.post sb s F0 r) := by
 refine GCall_ofk [.tmp 16] [.slice A0p p0.length c0p, .slice A1p p1.length c1p, .slice A2p p2.length c2p, .slice A3p p3.length c3p, .int .i64 p4, .agg #[.int .i64 p5_0, .slice A5_1p p5_1.length c5_1p], .int .i64 p6, .int .i64 p7, undef, undef, undef, undef, undef, undef, undef, undef, undef, undef, undef, undef, undef, undef, undef, undef, undef, undef, undef, undef, undef, undef, undef, undef, undef, undef, undef, undef, undef, undef, undef, undef, undef, undef, undef, undef, undef, undef, undef, undef, undef, undef, undef, undef, undef, undef, undef, undef, undef, undef, undef, undef, undef, undef, undef, undef, undef, undef, undef, undef, undef, undef, undef, undef, undef, undef, undef, undef, undef, undef, undef, undef, undef, undef, undef, undef, undef, undef, undef, undef, undef, undef, undef, undef, undef, undef, undef, undef, undef, undef, undef, undef, undef, undef, undef, undef, undef, undef, undef, undef, undef, undef, undef, undef, undef, undef, undef, undef, undef, undef, undef, undef, undef, undef, undef, undef, undef, undef, undef, undef, undef, undef, undef, undef, undef, undef, undef, undef, undef, undef, undef, undef, undef, undef, undef, undef, undef, undef, undef, undef, undef, undef, undef, undef, undef] Try.func199 rfl rfl rfl ?_
 intro w Q hQr hQn hQp
 replace H := topE H
 unfold spec_l14Cell.f at H
 refine HT_seq_k ?_
 intro K1 hK1
 refine HT_region ?_
 refine HL_cons rfl ?_
 refine o_boxH hH rfl ?_
 intro b2 s2 hH' hG
 replace hH : Hp sb s F0 s2 [Ck.ov b2 [.int .i64 p5_0, .slice A5_1p p5_1.length c5_1p] 139] := hH'
 clear hH' hG
 try dsimp only [putL, setL, evL, getL]
 refine HL_cons rfl ?_
 refine o_assign ?_
 try dsimp only [putL, setL, evL, getL]
 refine HL_nil ?_
 refine hK1 _ _ ?_
 refine HT_seq_k ?_
 intro K3 hK3
 refine HT_region ?_
 refine HL_cons rfl ?_
 refine o_move ?_
 try dsimp only [putL, setL, evL, getL]
 refine HL_cons rfl ?_
 refine o_len rfl Try.underlying24 ?_
 try dsimp only [putL, setL, evL, getL]
 refine HL_cons rfl ?_
 refine o_bin rfl rfl rfl ?_
 try dsimp only [putL, setL, evL, getL]
 refine HL_cons rfl ?_
 refine o_assign ?_
 try dsimp only [putL, setL, evL, getL]
 refine HL_nil ?_
 refine hK3 _ _ ?_
 refine HT_seq_k ?_
 intro K4 hK4
 refine HT_region ?_
 refine HL_cons rfl ?_
 refine o_assign ?_
 try dsimp only [putL, setL, evL, getL]
 refine HL_nil ?_
 refine hK4 _ _ ?_
 refine joinH H fun G5 hG5 H => ?_
 refine HT_joinK (fun l' s' => ∃ (x341 : Int), G5 (.go x341) = some r ∧ l' = [.slice A0p p0.length c0p, .slice A1p p1.length c1p, .slice A2p p2.length c2p, .slice A3p p3.length c3p, .int .i64 p4, .agg #[.int .i64 p5_0, .slice A5_1p p5_1.length c5_1p], .int .i64 p6, .int .i64 p7, undef, undef, undef, undef, undef, .pointer (some ⟨b2, 0, none⟩), undef, undef, getL l' 16, .int .i64 (IntKind.i64.wrap ((p3.length : Int) + 1)), .int .i64 x341, getL l' 19, getL l' 20, getL l' 21, .slice A3p p3.length c3p, .int .i64 (p3.length : Int), .int .i64 (IntKind.i64.wrap ((p3.length : Int) + 1)), getL l' 25, getL l' 26, getL l' 27, getL l' 28, getL l' 29, getL l' 30, getL l' 31, getL l' 32, getL l' 33, getL l' 34, getL l' 35, getL l' 36, getL l' 37, getL l' 38, getL l' 39, getL l' 40, getL l' 41, getL l' 42, getL l' 43, getL l' 44, getL l' 45, getL l' 46, getL l' 47, getL l' 48, getL l' 49, getL l' 50, getL l' 51, getL l' 52, getL l' 53, getL l' 54, getL l' 55, getL l' 56, getL l' 57, getL l' 58, getL l' 59, getL l' 60, getL l' 61, getL l' 62, getL l' 63, getL l' 64, getL l' 65, getL l' 66, getL l' 67, getL l' 68, getL l' 69, getL l' 70, getL l' 71, getL l' 72, getL l' 73, getL l' 74, getL l' 75, getL l' 76, getL l' 77, getL l' 78, getL l' 79, getL l' 80, getL l' 81, getL l' 82, getL l' 83, getL l' 84, getL l' 85, getL l' 86, getL l' 87, getL l' 88, getL l' 89, getL l' 90, getL l' 91, getL l' 92, getL l' 93, getL l' 94, getL l' 95, getL l' 96, getL l' 97, getL l' 98, getL l' 99, getL l' 100, getL l' 101, getL l' 102, getL l' 103, getL l' 104, getL l' 105, getL l' 106, getL l' 107, getL l' 108, getL l' 109, getL l' 110, getL l' 111, getL l' 112, getL l' 113, getL l' 114, getL l' 115, getL l' 116, getL l' 117, getL l' 118, getL l' 119, getL l' 120, getL l' 121, getL l' 122, getL l' 123, getL l' 124, getL l' 125, getL l' 126, getL l' 127, getL l' 128, getL l' 129, getL l' 130, getL l' 131, getL l' 132, getL l' 133, getL l' 134, getL l' 135, getL l' 136, getL l' 137, getL l' 138, getL l' 139, getL l' 140, getL l' 141, getL l' 142, getL l' 143, getL l' 144, getL l' 145, getL l' 146, getL l' 147, getL l' 148, getL l' 149, getL l' 150, getL l' 151, undef] ∧ Hp sb s F0 s' []) ?_ ?_
 ·intro K5 hK5
  refine HT_seq_k ?_
  intro K342 hK342
  refine HT_region ?_
  refine HL_cons rfl ?_
  refine o_faddr' (ft := 3) (off := 0) rfl Try.underlying139 rfl tI3 (by decide) ?_
  try dsimp only [putL, setL, evL, getL]
  refine HL_cons rfl ?_
  refine o_load' rfl Try.underlying3 rfl (hH.hasv 0 rfl rfl) ?_
  try dsimp only [putL, setL, evL, getL]
  refine HL_nil ?_
  refine hK342 _ _ ?_
  refine HT_block ?_
  refine HT_seq_k ?_
  intro K343 hK343
  refine HT_region ?_
  refine HL_cons rfl ?_
  refine o_bin rfl rfl rfl ?_
  try dsimp only [putL, setL, evL, getL]
  refine HL_cons rfl ?_
  refine o_assign ?_
  try dsimp only [putL, setL, evL, getL]
  refine HL_nil ?_
  refine hK343 _ _ ?_
  rcases Bool.eq_false_or_eq_true (p5_0 == 1) with hb344 | hb344
  ·replace H := iteT hb344 H
   refine HT_true (congrArg Value.bool hb344) ?_
   refine HT_seq_k ?_
   intro K345 hK345
   refine HT_region ?_
   refine HL_cons rfl ?_
   refine o_move ?_
   try dsimp only [putL, setL, evL, getL]
   refine HL_cons rfl ?_
   refine o_move ?_
   try dsimp only [putL, setL, evL, getL]
   refine HL_cons rfl ?_
   refine o_bin rfl rfl rfl ?_
   try dsimp only [putL, setL, evL, getL]
   refine HL_nil ?_
   refine hK345 _ _ ?_
   rcases Bool.eq_false_or_eq_true (p6 == p7) with hb346 | hb346
   ·replace H := iteT hb346 H
    refine HT_true (congrArg Value.bool hb346) ?_
    refine HT_seq_k ?_
    intro K347 hK347
    refine HT_region ?_
    refine HL_cons rfl ?_
    refine o_assign ?_
    try dsimp only [putL, setL, evL, getL]
    refine HL_nil ?_
    refine hK347 _ _ ?_
    refine HT_ret ?_
    replace H := escH (fun z hz => hG5 _ hz) H
    exact hQr _ _ [.int .i64 1] ⟨rfl, trivial⟩ (retH (fun r => spec_l14Cell.post sb s F0 r _ _) (show some _ = some r from H) ⟨rfl, hH.sel [] (by decide)⟩)
   ·replace H := iteF hb346 H
    refine HT_false (congrArg Value.bool hb346) ?_
    refine HT_skip ?_
    exact hK5 _ _ ⟨0, H, rfl, hH.sel [] (by decide)⟩
  ·replace H := iteF hb344 H
   refine HT_false (congrArg Value.bool hb344) ?_
   refine HT_seq_k ?_
   intro K348 hK348
   refine HT_region ?_
   refine HL_cons rfl ?_
   refine o_bin rfl rfl rfl ?_
   try dsimp only [putL, setL, evL, getL]
   refine HL_cons rfl ?_
   refine o_assign ?_
   try dsimp only [putL, setL, evL, getL]
   refine HL_nil ?_
   refine hK348 _ _ ?_
   rcases Bool.eq_false_or_eq_true (p5_0 == 2) with hb349 | hb349
   ·replace H := iteT hb349 H
    refine HT_true (congrArg Value.bool hb349) ?_
    refine joinH H fun G350 hG350 H => ?_
    refine HT_joinK (fun l' s' => ∃ (x354 : Bool), G350 x354 = some r ∧ l' = [.slice A0p p0.length c0p, .slice A1p p1.length c1p, .slice A2p p2.length c2p, .slice A3p p3.length c3p, .int .i64 p4, .agg #[.int .i64 p5_0, .slice A5_1p p5_1.length c5_1p], .int .i64 p6, .int .i64 p7, undef, undef, undef, undef, undef, .pointer (some ⟨b2, 0, none⟩), undef, undef, .int .i64 0, .int .i64 (IntKind.i64.wrap ((p3.length : Int) + 1)), .int .i64 0, undef, undef, undef, .slice A3p p3.length c3p, .int .i64 (p3.length : Int), .int .i64 (IntKind.i64.wrap ((p3.length : Int) + 1)), .pointer (some ⟨b2, 0 + 0, none⟩), .int .i64 p5_0, .bool (p5_0 == 1), .bool (p5_0 == 1), undef, undef, undef, .bool (p5_0 == 2), .bool (p5_0 == 2), getL l' 34, getL l' 35, getL l' 36, getL l' 37, getL l' 38, getL l' 39, getL l' 40, getL l' 41, getL l' 42, getL l' 43, getL l' 44, getL l' 45, .bool x354, undef, undef, undef, undef, undef, undef, undef, undef, undef, undef, undef, undef, undef, undef, undef, undef, undef, undef, undef, undef, undef, undef, undef, undef, undef, undef, undef, undef, undef, undef, undef, undef, undef, undef, undef, undef, undef, undef, undef, undef, undef, undef, undef, undef, undef, undef, undef, undef, undef, undef, undef, undef, undef, undef, undef, undef, undef, undef, undef, undef, undef, undef, undef, undef, undef, undef, undef, undef, undef, undef, undef, undef, undef, undef, undef, undef, undef, undef, undef, undef, undef, undef, undef, undef, undef, undef, undef, undef, undef, undef, undef, undef, undef, undef, undef, undef, undef, undef, undef, undef, undef, undef, undef, undef, undef, undef] ∧ Hp sb s F0 s' []) ?_ ?_
    ·intro K350 hK350
     refine HX_draw hMix ?_
     refine HX_lim (R := fun _ => True) (k := 0) (fun s' => Gro s2 s') 14 ?_
     have hR := Gro.refl s2
     have hH0 := hH
     refine HK_readP 0 (v := .int .i64 p7) rfl (by kernel_rfl) (fun c l s h => hQp c l s h) rfl (fun s' K hK => ?_) rfl rfl (fun _ => hR) ?_
     ·refine o_move ?_
      exact hK
     try dsimp only [putL, setL, evL, getL]
     refine HK_readP 1 (v := .int .i64 p6) rfl (by kernel_rfl) (fun c l s h => hQp c l s h) rfl (fun s' K hK => ?_) rfl rfl (fun _ => hR) ?_
     ·refine o_move ?_
      exact hK
     try dsimp only [putL, setL, evL, getL]
     refine HK_readP 2 (v := .int .i64 (IntKind.i64.wrap (p6 + 1))) rfl (by kernel_rfl) (fun c l s h => hQp c l s h) rfl (fun s' K hK => ?_) rfl rfl (fun _ => hR) ?_
     ·refine o_bin rfl rfl rfl ?_
      exact hK
     try dsimp only [putL, setL, evL, getL]
     refine HK_readP 3 (v := .bool (p7 == (IntKind.i64.wrap (p6 + 1)))) rfl (by kernel_rfl) (fun c l s h => hQp c l s h) rfl (fun s' K hK => ?_) rfl rfl (fun _ => hR) ?_
     ·refine o_bin rfl rfl rfl ?_
      exact hK
     try dsimp only [putL, setL, evL, getL]
     refine HK_readP 4 (v := .bool (p7 == (IntKind.i64.wrap (p6 + 1)))) rfl (by kernel_rfl) (fun c l s h => hQp c l s h) rfl (fun s' K hK => ?_) rfl rfl (fun _ => hR) ?_
     ·refine o_move ?_
      exact hK
     try dsimp only [putL, setL, evL, getL]
     rcases Bool.eq_false_or_eq_true (p7 == (IntKind.i64.wrap (p6 + 1))) with hb355 | hb355
     ·replace H := iteT hb355 H
      refine HK_readP 5 (v := .pointer (some ⟨b2, 0 + 1, none⟩)) rfl (by kernel_rfl) (fun c l s h => hQp c l s h) (wantT (j := 4) (b := true) (t := 38) (c := p7 == (IntKind.i64.wrap (p6 + 1))) rfl rfl rfl rfl hb355) (fun s' K hK => ?_) rfl rfl (fun _ => hR) ?_
      ·refine o_faddr' (ft := 24) (off := 1) rfl Try.underlying139 rfl tI24 (by decide) ?_
       exact hK
      try dsimp only [putL, setL, evL, getL]
      refine HK_read 6 (v := .slice A5_1p p5_1.length c5_1p) rfl (by kernel_rfl) (fun c l s h => hQp c l s h) (wantT (j := 4) (b := true) (t := 38) (c := p7 == (IntKind.i64.wrap (p6 + 1))) rfl rfl rfl rfl hb355) (fun s' hR' K hK => ?_) rfl rfl hR ?_
      ·refine o_load' rfl Try.underlying24 rfl (has_gro hR' (hH0.hasv 0 rfl rfl)) ?_
       exact hK
      try dsimp only [putL, setL, evL, getL]
      refine HK_readP 7 (v := .slice A3p p3.length c3p) rfl (by kernel_rfl) (fun c l s h => hQp c l s h) (wantT (j := 4) (b := true) (t := 38) (c := p7 == (IntKind.i64.wrap (p6 + 1))) rfl rfl rfl rfl hb355) (fun s' K hK => ?_) rfl rfl (fun _ => hR) ?_
      ·refine o_move ?_
       exact hK
      try dsimp only [putL, setL, evL, getL]
      refine HK_readP 8 (v := .int .i64 p6) rfl (by kernel_rfl) (fun c l s h => hQp c l s h) (wantT (j := 4) (b := true) (t := 38) (c := p7 == (IntKind.i64.wrap (p6 + 1))) rfl rfl rfl rfl hb355) (fun s' K hK => ?_) rfl rfl (fun _ => hR) ?_
      ·refine o_move ?_
       exact hK
      try dsimp only [putL, setL, evL, getL]
      replace H := headE H
      obtain ⟨u356, hu356, H⟩ := H
      obtain ⟨b356, o356, cs356, hr356, hh356, hel356⟩ := Rd.elb HRp3 hu356
      obtain rfl := hr356
      refine HK_readP 9 (v := .pointer (some ⟨b356, o356, none⟩)) rfl (by kernel_rfl) (fun c l s h => hQp c l s h) (wantT (j := 4) (b := true) (t := 38) (c := p7 == (IntKind.i64.wrap (p6 + 1))) rfl rfl rfl rfl hb355) (fun s' K hK => ?_) rfl rfl (fun _ => hR) ?_
      ·refine hel356 s' rfl rfl Try.underlying24 tI3 ?_
       exact hK
      try dsimp only [putL, setL, evL, getL]
      refine HK_read 10 (v := .int .i64 u356) rfl (by kernel_rfl) (fun c l s h => hQp c l s h) (wantT (j := 4) (b := true) (t := 38) (c := p7 == (IntKind.i64.wrap (p6 + 1))) rfl rfl rfl rfl hb355) (fun s' hR' K hK => ?_) rfl rfl hR ?_
      ·refine o_load' rfl Try.underlying3 rfl ((hh356 (hH0.bs.mono.trans hR'.mono)) 0 _ rfl) ?_
       exact hK
      try dsimp only [putL, setL, evL, getL]
      refine HK_more [11] (by kernel_rfl) rfl (fun _ => hR) ⟨⟨_, rfl, Or.inl ⟨(wantT (j := 4) (b := true) (t := 38) (c := p7 == (IntKind.i64.wrap (p6 + 1))) rfl rfl rfl rfl hb355), ?_⟩⟩, trivial⟩
      replace H := headE H
      obtain ⟨u357, hu357, H⟩ := H
      skip
      refine o_call (args := #[.slice A5_1p p5_1.length c5_1p, .int .i64 u356]) Try.func201 rfl rfl rfl (spec_l4In.ok sb s2 no A5_1p c5_1p p5_1 u356 HRp5_1 (Hp.own hH.bs) _ hu357) ?_
      rintro _ s357 ⟨rfl, hD⟩
      replace hR := hR.trans hD.gro
      replace hH := hH.back0 hD (Up.refl _ _ _)
      clear hD
      dsimp only [addC, setC, rmC, selC, getC] at hH
      try dsimp only [putL, setL, evL, getL]
      refine HK_readP 12 (v := .bool u357) rfl (by kernel_rfl) (fun c l s h => hQp c l s h) rfl (fun s' K hK => ?_) rfl rfl (fun _ => hR) ?_
      ·refine o_pickT rfl hb355 ?_
       exact hK
      try dsimp only [putL, setL, evL, getL]
      refine HK_done (fun _ => hR) (by kernel_rfl) ?_
      exact hK350 _ _ ⟨u357, H, rfl, hH.sel [] (by decide)⟩
     ·replace H := iteF hb355 H
      refine HK_passP 5 rfl (by kernel_rfl) (fun c l s h => hQp c l s h) ?_ (fun _ => hR) ?_
      ·exact wantF (j := 4) (b := true) (t := 38) (c := p7 == (IntKind.i64.wrap (p6 + 1))) rfl rfl rfl rfl hb355
      try dsimp only [putL, setL, evL, getL]
      refine HK_passP 6 rfl (by kernel_rfl) (fun c l s h => hQp c l s h) ?_ (fun _ => hR) ?_
      ·exact wantF (j := 4) (b := true) (t := 38) (c := p7 == (IntKind.i64.wrap (p6 + 1))) rfl rfl rfl rfl hb355
      try dsimp only [putL, setL, evL, getL]
      refine HK_passP 7 rfl (by kernel_rfl) (fun c l s h => hQp c l s h) ?_ (fun _ => hR) ?_
      ·exact wantF (j := 4) (b := true) (t := 38) (c := p7 == (IntKind.i64.wrap (p6 + 1))) rfl rfl rfl rfl hb355
      try dsimp only [putL, setL, evL, getL]
      refine HK_passP 8 rfl (by kernel_rfl) (fun c l s h => hQp c l s h) ?_ (fun _ => hR) ?_
      ·exact wantF (j := 4) (b := true) (t := 38) (c := p7 == (IntKind.i64.wrap (p6 + 1))) rfl rfl rfl rfl hb355
      try dsimp only [putL, setL, evL, getL]
      refine HK_passP 9 rfl (by kernel_rfl) (fun c l s h => hQp c l s h) ?_ (fun _ => hR) ?_
      ·exact wantF (j := 4) (b := true) (t := 38) (c := p7 == (IntKind.i64.wrap (p6 + 1))) rfl rfl rfl rfl hb355
      try dsimp only [putL, setL, evL, getL]
      refine HK_passP 10 rfl (by kernel_rfl) (fun c l s h => hQp c l s h) ?_ (fun _ => hR) ?_
      ·exact wantF (j := 4) (b := true) (t := 38) (c := p7 == (IntKind.i64.wrap (p6 + 1))) rfl rfl rfl rfl hb355
      try dsimp only [putL, setL, evL, getL]
      refine HK_passP 11 rfl (by kernel_rfl) (fun c l s h => hQp c l s h) ?_ (fun _ => hR) ?_
      ·exact wantF (j := 4) (b := true) (t := 38) (c := p7 == (IntKind.i64.wrap (p6 + 1))) rfl rfl rfl rfl hb355
      try dsimp only [putL, setL, evL, getL]
      refine HK_readP 12 (v := .bool false) rfl (by kernel_rfl) (fun c l s h => hQp c l s h) rfl (fun s' K hK => ?_) rfl rfl (fun _ => hR) ?_
      ·refine o_pickF rfl hb355 ?_
       exact hK
      try dsimp only [putL, setL, evL, getL]
      refine HK_done (fun _ => hR) (by kernel_rfl) ?_
      exact hK350 _ _ ⟨false, H, rfl, hH.sel [] (by decide)⟩
    ·rintro l' s358 ⟨x354, H, hl, hH⟩
     generalize getL l' 34 = j34, getL l' 35 = j35, getL l' 36 = j36, getL l' 37 = j37, getL l' 38 = j38, getL l' 39 = j39, getL l' 40 = j40, getL l' 41 = j41, getL l' 42 = j42, getL l' 43 = j43, getL l' 44 = j44, getL l' 45 = j45 at hl
     subst hl
     replace H := hG350 _ H
     try dsimp only at H
     rcases Bool.eq_false_or_eq_true x354 with hb359 | hb359
     ·replace H := iteT hb359 H
      refine HT_true (congrArg Value.bool hb359) ?_
      refine HT_seq_k ?_
      intro K360 hK360
      refine HT_region ?_
      refine HL_cons rfl ?_
      refine o_assign ?_
      try dsimp only [putL, setL, evL, getL]
      refine HL_nil ?_
      refine hK360 _ _ ?_
      refine HT_ret ?_
      replace H := escH (fun z hz => hG5 _ hz) H
      exact hQr _ _ [.int .i64 1] ⟨rfl, trivial⟩ (retH (fun r => spec_l14Cell.post sb s F0 r _ _) (show some _ = some r from H) ⟨rfl, hH⟩)
     ·replace H := iteF hb359 H
      refine HT_false (congrArg Value.bool hb359) ?_
      refine HT_skip ?_
      exact hK5 _ _ ⟨0, H, rfl, hH⟩
   ·replace H := iteF hb349 H
    refine HT_false (congrArg Value.bool hb349) ?_
    refine HT_seq_k ?_
    intro K361 hK361
    refine HT_region ?_
    refine HL_cons rfl ?_
    refine o_bin rfl rfl rfl ?_
    try dsimp only [putL, setL, evL, getL]
    refine HL_cons rfl ?_
    refine o_assign ?_
    try dsimp only [putL, setL, evL, getL]
    refine HL_nil ?_
    refine hK361 _ _ ?_
    rcases Bool.eq_false_or_eq_true (p5_0 == 4) with hb362 | hb362
    ·replace H := iteT hb362 H
     refine HT_true (congrArg Value.bool hb362) ?_
     refine HT_seq_k ?_
     intro K363 hK363
     refine HX_draw hMix ?_
     refine HX_lim (R := fun _ => True) (k := 0) (fun s' => Gro s2 s') 28 ?_
     have hR := Gro.refl s2
     have hH0 := hH
     refine HK_readP 0 (v := .slice A1p p1.length c1p) rfl (by kernel_rfl) (fun c l s h => hQp c l s h) rfl (fun s' K hK => ?_) rfl rfl (fun _ => hR) ?_
     ·refine o_move ?_
      exact hK
     try dsimp only [putL, setL, evL, getL]
     refine HK_readP 1 (v := .slice A0p p0.length c0p) rfl (by kernel_rfl) (fun c l s h => hQp c l s h) rfl (fun s' K hK => ?_) rfl rfl (fun _ => hR) ?_
     ·refine o_move ?_
      exact hK
     try dsimp only [putL, setL, evL, getL]
     refine HK_readP 2 (v := .int .i64 p4) rfl (by kernel_rfl) (fun c l s h => hQp c l s h) rfl (fun s' K hK => ?_) rfl rfl (fun _ => hR) ?_
     ·refine o_move ?_
      exact hK
     try dsimp only [putL, setL, evL, getL]
     refine HK_readP 6 (v := .int .i64 p6) rfl (by kernel_rfl) (fun c l s h => hQp c l s h) rfl (fun s' K hK => ?_) rfl rfl (fun _ => hR) ?_
     ·refine o_move ?_
      exact hK
     try dsimp only [putL, setL, evL, getL]
     refine HK_readP 7 (v := .int .i64 (IntKind.i64.wrap ((p3.length : Int) + 1))) rfl (by kernel_rfl) (fun c l s h => hQp c l s h) rfl (fun s' K hK => ?_) rfl rfl (fun _ => hR) ?_
     ·refine o_move ?_
      exact hK
     try dsimp only [putL, setL, evL, getL]
     refine HK_readP 8 (v := .int .i64 (IntKind.i64.wrap (p6 * (IntKind.i64.wrap ((p3.length : Int) + 1))))) rfl (by kernel_rfl) (fun c l s h => hQp c l s h) rfl (fun s' K hK => ?_) rfl rfl (fun _ => hR) ?_
     ·refine o_bin rfl rfl rfl ?_
      exact hK
     try dsimp only [putL, setL, evL, getL]
     refine HK_readP 9 (v := .int .i64 p7) rfl (by kernel_rfl) (fun c l s h => hQp c l s h) rfl (fun s' K hK => ?_) rfl rfl (fun _ => hR) ?_
     ·refine o_move ?_
      exact hK
     try dsimp only [putL, setL, evL, getL]
     refine HK_readP 10 (v := .int .i64 (IntKind.i64.wrap ((IntKind.i64.wrap (p6 * (IntKind.i64.wrap ((p3.length : Int) + 1)))) + p7))) rfl (by kernel_rfl) (fun c l s h => hQp c l s h) rfl (fun s' K hK => ?_) rfl rfl (fun _ => hR) ?_
     ·refine o_bin rfl rfl rfl ?_
      exact hK
     try dsimp only [putL, setL, evL, getL]
     refine HK_readP 13 (v := .slice A1p p1.length c1p) rfl (by kernel_rfl) (fun c l s h => hQp c l s h) rfl (fun s' K hK => ?_) rfl rfl (fun _ => hR) ?_
     ·refine o_move ?_
      exact hK
     try dsimp only [putL, setL, evL, getL]
     refine HK_readP 14 (v := .int .i64 p4) rfl (by kernel_rfl) (fun c l s h => hQp c l s h) rfl (fun s' K hK => ?_) rfl rfl (fun _ => hR) ?_
     ·refine o_move ?_
      exact hK
     try dsimp only [putL, setL, evL, getL]
     refine HK_readP 15 (v := .int .i64 (IntKind.i64.wrap (p4 - 1))) rfl (by kernel_rfl) (fun c l s h => hQp c l s h) rfl (fun s' K hK => ?_) rfl rfl (fun _ => hR) ?_
     ·refine o_bin rfl rfl rfl ?_
      exact hK
     try dsimp only [putL, setL, evL, getL]
     replace H := headE H
     obtain ⟨u364, hu364, H⟩ := H
     obtain ⟨b364, o364, cs364, hr364, hh364, hel364⟩ := Rd.elb HRp1 hu364
     obtain ⟨A365, c365, rfl, D365⟩ := hr364
     refine HK_readP 16 (v := .pointer (some ⟨b364, o364, none⟩)) rfl (by kernel_rfl) (fun c l s h => hQp c l s h) rfl (fun s' K hK => ?_) rfl rfl (fun _ => hR) ?_
     ·refine hel364 s' rfl rfl Try.underlying105 tI24 ?_
      exact hK
     try dsimp only [putL, setL, evL, getL]
     refine HK_read 17 (v := .slice A365 u364.length c365) rfl (by kernel_rfl) (fun c l s h => hQp c l s h) rfl (fun s' hR' K hK => ?_) rfl rfl hR ?_
     ·refine o_load' rfl Try.underlying24 rfl ((hh364 (hH0.bs.mono.trans hR'.mono)) 0 _ rfl) ?_
      exact hK
     try dsimp only [putL, setL, evL, getL]
     refine HK_readP 18 (v := .int .i64 p6) rfl (by kernel_rfl) (fun c l s h => hQp c l s h) rfl (fun s' K hK => ?_) rfl rfl (fun _ => hR) ?_
     ·refine o_move ?_
      exact hK
     try dsimp only [putL, setL, evL, getL]
     refine HK_readP 19 (v := .int .i64 (IntKind.i64.wrap ((p3.length : Int) + 1))) rfl (by kernel_rfl) (fun c l s h => hQp c l s h) rfl (fun s' K hK => ?_) rfl rfl (fun _ => hR) ?_
     ·refine o_move ?_
      exact hK
     try dsimp only [putL, setL, evL, getL]
     refine HK_readP 20 (v := .int .i64 (IntKind.i64.wrap (p6 * (IntKind.i64.wrap ((p3.length : Int) + 1))))) rfl (by kernel_rfl) (fun c l s h => hQp c l s h) rfl (fun s' K hK => ?_) rfl rfl (fun _ => hR) ?_
     ·refine o_bin rfl rfl rfl ?_
      exact hK
     try dsimp only [putL, setL, evL, getL]
     refine HK_readP 21 (v := .int .i64 p7) rfl (by kernel_rfl) (fun c l s h => hQp c l s h) rfl (fun s' K hK => ?_) rfl rfl (fun _ => hR) ?_
     ·refine o_move ?_
      exact hK
     try dsimp only [putL, setL, evL, getL]
     refine HK_readP 22 (v := .int .i64 (IntKind.i64.wrap ((IntKind.i64.wrap (p6 * (IntKind.i64.wrap ((p3.length : Int) + 1)))) + p7))) rfl (by kernel_rfl) (fun c l s h => hQp c l s h) rfl (fun s' K hK => ?_) rfl rfl (fun _ => hR) ?_
     ·refine o_bin rfl rfl rfl ?_
      exact hK
     try dsimp only [putL, setL, evL, getL]
     replace H := headE H
     obtain ⟨u366, hu366, H⟩ := H
     obtain ⟨b366, o366, cs366, hr366, hh366, hel366⟩ := Rd.elb D365 hu366
     obtain rfl := hr366
     refine HK_readP 23 (v := .pointer (some ⟨b366, o366, none⟩)) rfl (by kernel_rfl) (fun c l s h => hQp c l s h) rfl (fun s' K hK => ?_) rfl rfl (fun _ => hR) ?_
     ·refine hel366 s' rfl rfl Try.underlying24 tI3 ?_
      exact hK
     try dsimp only [putL, setL, evL, getL]
     refine HK_read 24 (v := .int .i64 u366) rfl (by kernel_rfl) (fun c l s h => hQp c l s h) rfl (fun s' hR' K hK => ?_) rfl rfl hR ?_
     ·refine o_load' rfl Try.underlying3 rfl ((hh366 (hH0.bs.mono.trans hR'.mono)) 0 _ rfl) ?_
      exact hK
     try dsimp only [putL, setL, evL, getL]
     refine HK_more [3] (by kernel_rfl) rfl (fun _ => hR) ⟨⟨_, rfl, Or.inl ⟨rfl, ?_⟩⟩, trivial⟩
     replace H := headE H
     obtain ⟨u367, hu367, H⟩ := H
     skip
     refine o_call (args := #[.slice A0p p0.length c0p, .int .i64 p4]) Try.func202 rfl rfl rfl (spec_l5First.ok sb s2 no A0p c0p p0 p4 HRp0 (Hp.own hH.bs) _ hu367) ?_
     rintro _ s367 ⟨rfl, hD⟩
     replace hR := hR.trans hD.gro
     replace hH := hH.back0 hD (Up.refl _ _ _)
     clear hD
     dsimp only [addC, setC, rmC, selC, getC] at hH
     try dsimp only [putL, setL, evL, getL]
     replace H := headE H
     obtain ⟨u368, hu368, H⟩ := H
     obtain ⟨b368, o368, cs368, hr368, hh368, hel368⟩ := Rd.elb HRp1 hu368
     obtain ⟨A369, c369, rfl, D369⟩ := hr368
     refine HK_readP 4 (v := .pointer (some ⟨b368, o368, none⟩)) rfl (by kernel_rfl) (fun c l s h => hQp c l s h) rfl (fun s' K hK => ?_) rfl rfl (fun _ => hR) ?_
     ·refine hel368 s' rfl rfl Try.underlying105 tI24 ?_
      exact hK
     try dsimp only [putL, setL, evL, getL]
     refine HK_read 5 (v := .slice A369 u368.length c369) rfl (by kernel_rfl) (fun c l s h => hQp c l s h) rfl (fun s' hR' K hK => ?_) rfl rfl hR ?_
     ·refine o_load' rfl Try.underlying24 rfl ((hh368 (hH0.bs.mono.trans hR'.mono)) 0 _ rfl) ?_
      exact hK
     try dsimp only [putL, setL, evL, getL]
     replace H := headE H
     obtain ⟨u370, hu370, H⟩ := H
     obtain ⟨b370, o370, cs370, hr370, hh370, hel370⟩ := Rd.elb D369 hu370
     obtain rfl := hr370
     refine HK_readP 11 (v := .pointer (some ⟨b370, o370, none⟩)) rfl (by kernel_rfl) (fun c l s h => hQp c l s h) rfl (fun s' K hK => ?_) rfl rfl (fun _ => hR) ?_
     ·refine hel370 s' rfl rfl Try.underlying24 tI3 ?_
      exact hK
     try dsimp only [putL, setL, evL, getL]
     refine HK_read 12 (v := .int .i64 u370) rfl (by kernel_rfl) (fun c l s h => hQp c l s h) rfl (fun s' hR' K hK => ?_) rfl rfl hR ?_
     ·refine o_load' rfl Try.underlying3 rfl ((hh370 (hH0.bs.mono.trans hR'.mono)) 0 _ rfl) ?_
      exact hK
     try dsimp only [putL, setL, evL, getL]
     refine HK_readP 25 (v := .int .i64 (IntKind.i64.wrap (u370 + u366))) rfl (by kernel_rfl) (fun c l s h => hQp c l s h) rfl (fun s' K hK => ?_) rfl rfl (fun _ => hR) ?_
     ·refine o_bin rfl rfl rfl ?_
      exact hK
     try dsimp only [putL, setL, evL, getL]
     refine HK_more [26] (by kernel_rfl) rfl (fun _ => hR) ⟨⟨_, rfl, Or.inl ⟨rfl, ?_⟩⟩, trivial⟩
     skip
     refine o_assign ?_
     try dsimp only [putL, setL, evL, getL]
     refine HK_done (fun _ => hR) (by kernel_rfl) ?_
     refine hK363 _ _ ?_
     refine HT_ret ?_
     replace H := escH (fun z hz => hG5 _ hz) H
     exact hQr _ _ [.int .i64 (IntKind.i64.wrap (u370 + u366))] ⟨rfl, trivial⟩ (retH (fun r => spec_l14Cell.post sb s F0 r _ _) (show some _ = some r from H) ⟨rfl, hH.sel [] (by decide)⟩)
    ·replace H := iteF hb362 H
     refine HT_false (congrArg Value.bool hb362) ?_
     refine HT_seq_k ?_
     intro K371 hK371
     refine HT_region ?_
     refine HL_cons rfl ?_
     refine o_bin rfl rfl rfl ?_
     try dsimp only [putL, setL, evL, getL]
     refine HL_cons rfl ?_
     refine o_assign ?_
     try dsimp only [putL, setL, evL, getL]
     refine HL_nil ?_
     refine hK371 _ _ ?_
     rcases Bool.eq_false_or_eq_true (p5_0 == 3) with hb372 | hb372
     ·replace H := iteT hb372 H
      refine HT_true (congrArg Value.bool hb372) ?_
      refine HT_seq_k ?_
      intro K373 hK373
      refine HT_region ?_
      refine HL_cons rfl ?_
      refine o_move ?_
      try dsimp only [putL, setL, evL, getL]
      refine HL_cons rfl ?_
      refine o_assign ?_
      try dsimp only [putL, setL, evL, getL]
      refine HL_nil ?_
      refine hK373 _ _ ?_
      refine joinH H fun G374 hG374 H => ?_
      refine HT_toK (fun l' s' => ∃ (x416 : Int), G374 x416 = some r ∧ l' = [.slice A0p p0.length c0p, .slice A1p p1.length c1p, .slice A2p p2.length c2p, .slice A3p p3.length c3p, .int .i64 p4, .agg #[.int .i64 p5_0, .slice A5_1p p5_1.length c5_1p], .int .i64 p6, .int .i64 p7, undef, undef, undef, undef, undef, .pointer (some ⟨b2, 0, none⟩), undef, undef, .int .i64 0, .int .i64 (IntKind.i64.wrap ((p3.length : Int) + 1)), .int .i64 x416, getL l' 19, undef, undef, .slice A3p p3.length c3p, .int .i64 (p3.length : Int), .int .i64 (IntKind.i64.wrap ((p3.length : Int) + 1)), .pointer (some ⟨b2, 0 + 0, none⟩), .int .i64 p5_0, .bool (p5_0 == 1), .bool (p5_0 == 1), undef, undef, undef, .bool (p5_0 == 2), .bool (p5_0 == 2), undef, undef, undef, undef, undef, undef, undef, undef, undef, undef, undef, undef, undef, .bool (p5_0 == 4), .bool (p5_0 == 4), undef, undef, undef, undef, undef, undef, undef, undef, undef, undef, undef, undef, undef, undef, undef, undef, undef, undef, undef, undef, undef, undef, undef, undef, undef, undef, .bool (p5_0 == 3), .bool (p5_0 == 3), .int .i64 p6, getL l' 78, getL l' 79, getL l' 80, getL l' 81, getL l' 82, getL l' 83, getL l' 84, getL l' 85, getL l' 86, getL l' 87, getL l' 88, getL l' 89, getL l' 90, getL l' 91, getL l' 92, getL l' 93, getL l' 94, getL l' 95, getL l' 96, getL l' 97, getL l' 98, getL l' 99, getL l' 100, getL l' 101, getL l' 102, getL l' 103, getL l' 104, getL l' 105, getL l' 106, getL l' 107, getL l' 108, getL l' 109, getL l' 110, getL l' 111, undef, undef, undef, undef, undef, undef, undef, undef, undef, undef, undef, undef, undef, undef, undef, undef, undef, undef, undef, undef, undef, undef, undef, undef, undef, undef, undef, undef, undef, undef, undef, undef, undef, undef, undef, undef, undef, undef, undef, undef, undef] ∧ Hp sb s F0 s' []) ?_ ?_
      ·intro K374 hK374
       refine HT_block ?_
       refine HT_loopK (fun kf l' s' => ∃ (x429 : Int) (x430 : Int), (spec_l14Cell.l1 p0 p1 p3 p4 p6 p7 kf x429 x430).bind G374 = some r ∧ l' = [.slice A0p p0.length c0p, .slice A1p p1.length c1p, .slice A2p p2.length c2p, .slice A3p p3.length c3p, .int .i64 p4, .agg #[.int .i64 p5_0, .slice A5_1p p5_1.length c5_1p], .int .i64 p6, .int .i64 p7, undef, undef, undef, undef, undef, .pointer (some ⟨b2, 0, none⟩), undef, undef, .int .i64 0, .int .i64 (IntKind.i64.wrap ((p3.length : Int) + 1)), .int .i64 x429, .int .i64 x430, undef, undef, .slice A3p p3.length c3p, .int .i64 (p3.length : Int), .int .i64 (IntKind.i64.wrap ((p3.length : Int) + 1)), .pointer (some ⟨b2, 0 + 0, none⟩), .int .i64 p5_0, .bool (p5_0 == 1), .bool (p5_0 == 1), undef, undef, undef, .bool (p5_0 == 2), .bool (p5_0 == 2), undef, undef, undef, undef, undef, undef, undef, undef, undef, undef, undef, undef, undef, .bool (p5_0 == 4), .bool (p5_0 == 4), undef, undef, undef, undef, undef, undef, undef, undef, undef, undef, undef, undef, undef, undef, undef, undef, undef, undef, undef, undef, undef, undef, undef, undef, undef, undef, .bool (p5_0 == 3), .bool (p5_0 == 3), .int .i64 p6, getL l' 78, getL l' 79, getL l' 80, getL l' 81, getL l' 82, getL l' 83, getL l' 84, getL l' 85, getL l' 86, getL l' 87, getL l' 88, getL l' 89, getL l' 90, getL l' 91, getL l' 92, getL l' 93, getL l' 94, getL l' 95, getL l' 96, getL l' 97, getL l' 98, getL l' 99, getL l' 100, getL l' 101, getL l' 102, getL l' 103, getL l' 104, getL l' 105, getL l' 106, getL l' 107, getL l' 108, getL l' 109, getL l' 110, getL l' 111, undef, undef, undef, undef, undef, undef, undef, undef, undef, undef, undef, undef, undef, undef, undef, undef, undef, undef, undef, undef, undef, undef, undef, undef, undef, undef, undef, undef, undef, undef, undef, undef, undef, undef, undef, undef, undef, undef, undef, undef, undef] ∧ Hp sb s F0 s' []) (((p7) - (p6)).toNat + 2) ⟨0, p6, H, rfl, hH.sel [] (by decide)⟩ ?_
       rintro kf l' s445 ⟨x429, x430, H, hl, hH⟩ K445 hK445
       generalize getL l' 78 = j78, getL l' 79 = j79, getL l' 80 = j80, getL l' 81 = j81, getL l' 82 = j82, getL l' 83 = j83, getL l' 84 = j84, getL l' 85 = j85, getL l' 86 = j86, getL l' 87 = j87, getL l' 88 = j88, getL l' 89 = j89, getL l' 90 = j90, getL l' 91 = j91, getL l' 92 = j92, getL l' 93 = j93, getL l' 94 = j94, getL l' 95 = j95, getL l' 96 = j96, getL l' 97 = j97, getL l' 98 = j98, getL l' 99 = j99, getL l' 100 = j100, getL l' 101 = j101, getL l' 102 = j102, getL l' 103 = j103, getL l' 104 = j104, getL l' 105 = j105, getL l' 106 = j106, getL l' 107 = j107, getL l' 108 = j108, getL l' 109 = j109, getL l' 110 = j110, getL l' 111 = j111 at hl
       subst hl
       cases kf with
       | zero => simp [spec_l14Cell.l1] at H
       | succ kf =>
        rw [spec_l14Cell.l1] at H
        refine HT_seq_k ?_
        intro K446 hK446
        refine HT_seq_k ?_
        intro K447 hK447
        refine HT_region ?_
        refine HL_cons rfl ?_
        refine o_move ?_
        try dsimp only [putL, setL, evL, getL]
        refine HL_cons rfl ?_
        refine o_move ?_
        try dsimp only [putL, setL, evL, getL]
        refine HL_cons rfl ?_
        refine o_bin rfl rfl rfl ?_
        try dsimp only [putL, setL, evL, getL]
        refine HL_nil ?_
        refine hK447 _ _ ?_
        rcases Bool.eq_false_or_eq_true (decide (x430 ≤ p7)) with hb448 | hb448
        ·replace H := iteT hb448 H
         refine HT_true (congrArg Value.bool hb448) ?_
         refine HT_skip ?_
         refine hK446 _ _ ?_
         refine HT_seq_k ?_
         intro K449 hK449
         refine HT_block ?_
         refine HX_draw hMix ?_
         refine HX_lim (R := fun _ => True) (k := 0) (fun s' => Gro s445 s') 31 ?_
         have hR := Gro.refl s445
         have hH0 := hH
         refine HK_readP 0 (v := .int .i64 x429) rfl (by kernel_rfl) (fun c l s h => hQp c l s h) rfl (fun s' K hK => ?_) rfl rfl (fun _ => hR) ?_
         ·refine o_move ?_
          exact hK
         try dsimp only [putL, setL, evL, getL]
         refine HK_readP 1 (v := .slice A1p p1.length c1p) rfl (by kernel_rfl) (fun c l s h => hQp c l s h) rfl (fun s' K hK => ?_) rfl rfl (fun _ => hR) ?_
         ·refine o_move ?_
          exact hK
         try dsimp only [putL, setL, evL, getL]
         refine HK_readP 2 (v := .slice A0p p0.length c0p) rfl (by kernel_rfl) (fun c l s h => hQp c l s h) rfl (fun s' K hK => ?_) rfl rfl (fun _ => hR) ?_
         ·refine o_move ?_
          exact hK
         try dsimp only [putL, setL, evL, getL]
         refine HK_readP 3 (v := .int .i64 p4) rfl (by kernel_rfl) (fun c l s h => hQp c l s h) rfl (fun s' K hK => ?_) rfl rfl (fun _ => hR) ?_
         ·refine o_move ?_
          exact hK
         try dsimp only [putL, setL, evL, getL]
         refine HK_readP 7 (v := .int .i64 p6) rfl (by kernel_rfl) (fun c l s h => hQp c l s h) rfl (fun s' K hK => ?_) rfl rfl (fun _ => hR) ?_
         ·refine o_move ?_
          exact hK
         try dsimp only [putL, setL, evL, getL]
         refine HK_readP 8 (v := .int .i64 (IntKind.i64.wrap ((p3.length : Int) + 1))) rfl (by kernel_rfl) (fun c l s h => hQp c l s h) rfl (fun s' K hK => ?_) rfl rfl (fun _ => hR) ?_
         ·refine o_move ?_
          exact hK
         try dsimp only [putL, setL, evL, getL]
         refine HK_readP 9 (v := .int .i64 (IntKind.i64.wrap (p6 * (IntKind.i64.wrap ((p3.length : Int) + 1))))) rfl (by kernel_rfl) (fun c l s h => hQp c l s h) rfl (fun s' K hK => ?_) rfl rfl (fun _ => hR) ?_
         ·refine o_bin rfl rfl rfl ?_
          exact hK
         try dsimp only [putL, setL, evL, getL]
         refine HK_readP 10 (v := .int .i64 x430) rfl (by kernel_rfl) (fun c l s h => hQp c l s h) rfl (fun s' K hK => ?_) rfl rfl (fun _ => hR) ?_
         ·refine o_move ?_
          exact hK
         try dsimp only [putL, setL, evL, getL]
         refine HK_readP 11 (v := .int .i64 (IntKind.i64.wrap ((IntKind.i64.wrap (p6 * (IntKind.i64.wrap ((p3.length : Int) + 1)))) + x430))) rfl (by kernel_rfl) (fun c l s h => hQp c l s h) rfl (fun s' K hK => ?_) rfl rfl (fun _ => hR) ?_
         ·refine o_bin rfl rfl rfl ?_
          exact hK
         try dsimp only [putL, setL, evL, getL]
         refine HK_readP 14 (v := .slice A1p p1.length c1p) rfl (by kernel_rfl) (fun c l s h => hQp c l s h) rfl (fun s' K hK => ?_) rfl rfl (fun _ => hR) ?_
         ·refine o_move ?_
          exact hK
         try dsimp only [putL, setL, evL, getL]
         refine HK_readP 15 (v := .int .i64 p4) rfl (by kernel_rfl) (fun c l s h => hQp c l s h) rfl (fun s' K hK => ?_) rfl rfl (fun _ => hR) ?_
         ·refine o_move ?_
          exact hK
         try dsimp only [putL, setL, evL, getL]
         refine HK_readP 16 (v := .int .i64 (IntKind.i64.wrap (p4 - 1))) rfl (by kernel_rfl) (fun c l s h => hQp c l s h) rfl (fun s' K hK => ?_) rfl rfl (fun _ => hR) ?_
         ·refine o_bin rfl rfl rfl ?_
          exact hK
         try dsimp only [putL, setL, evL, getL]
         replace H := headE H
         obtain ⟨u450, hu450, H⟩ := H
         obtain ⟨b450, o450, cs450, hr450, hh450, hel450⟩ := Rd.elb HRp1 hu450
         obtain ⟨A451, c451, rfl, D451⟩ := hr450
         refine HK_readP 17 (v := .pointer (some ⟨b450, o450, none⟩)) rfl (by kernel_rfl) (fun c l s h => hQp c l s h) rfl (fun s' K hK => ?_) rfl rfl (fun _ => hR) ?_
         ·refine hel450 s' rfl rfl Try.underlying105 tI24 ?_
          exact hK
         try dsimp only [putL, setL, evL, getL]
         refine HK_read 18 (v := .slice A451 u450.length c451) rfl (by kernel_rfl) (fun c l s h => hQp c l s h) rfl (fun s' hR' K hK => ?_) rfl rfl hR ?_
         ·refine o_load' rfl Try.underlying24 rfl ((hh450 (hH0.bs.mono.trans hR'.mono)) 0 _ rfl) ?_
          exact hK
         try dsimp only [putL, setL, evL, getL]
         refine HK_readP 19 (v := .int .i64 x430) rfl (by kernel_rfl) (fun c l s h => hQp c l s h) rfl (fun s' K hK => ?_) rfl rfl (fun _ => hR) ?_
         ·refine o_move ?_
          exact hK
         try dsimp only [putL, setL, evL, getL]
         refine HK_readP 20 (v := .int .i64 (IntKind.i64.wrap ((p3.length : Int) + 1))) rfl (by kernel_rfl) (fun c l s h => hQp c l s h) rfl (fun s' K hK => ?_) rfl rfl (fun _ => hR) ?_
         ·refine o_move ?_
          exact hK
         try dsimp only [putL, setL, evL, getL]
         refine HK_readP 21 (v := .int .i64 (IntKind.i64.wrap (x430 * (IntKind.i64.wrap ((p3.length : Int) + 1))))) rfl (by kernel_rfl) (fun c l s h => hQp c l s h) rfl (fun s' K hK => ?_) rfl rfl (fun _ => hR) ?_
         ·refine o_bin rfl rfl rfl ?_
          exact hK
         try dsimp only [putL, setL, evL, getL]
         refine HK_readP 22 (v := .int .i64 p7) rfl (by kernel_rfl) (fun c l s h => hQp c l s h) rfl (fun s' K hK => ?_) rfl rfl (fun _ => hR) ?_
         ·refine o_move ?_
          exact hK
         try dsimp only [putL, setL, evL, getL]
         refine HK_readP 23 (v := .int .i64 (IntKind.i64.wrap ((IntKind.i64.wrap (x430 * (IntKind.i64.wrap ((p3.length : Int) + 1)))) + p7))) rfl (by kernel_rfl) (fun c l s h => hQp c l s h) rfl (fun s' K hK => ?_) rfl rfl (fun _ => hR) ?_
         ·refine o_bin rfl rfl rfl ?_
          exact hK
         try dsimp only [putL, setL, evL, getL]
         replace H := headE H
         obtain ⟨u452, hu452, H⟩ := H
         obtain ⟨b452, o452, cs452, hr452, hh452, hel452⟩ := Rd.elb D451 hu452
         obtain rfl := hr452
         refine HK_readP 24 (v := .pointer (some ⟨b452, o452, none⟩)) rfl (by kernel_rfl) (fun c l s h => hQp c l s h) rfl (fun s' K hK => ?_) rfl rfl (fun _ => hR) ?_
         ·refine hel452 s' rfl rfl Try.underlying24 tI3 ?_
          exact hK
         try dsimp only [putL, setL, evL, getL]
         refine HK_read 25 (v := .int .i64 u452) rfl (by kernel_rfl) (fun c l s h => hQp c l s h) rfl (fun s' hR' K hK => ?_) rfl rfl hR ?_
         ·refine o_load' rfl Try.underlying3 rfl ((hh452 (hH0.bs.mono.trans hR'.mono)) 0 _ rfl) ?_
          exact hK
         try dsimp only [putL, setL, evL, getL]
         refine HK_more [4] (by kernel_rfl) rfl (fun _ => hR) ⟨⟨_, rfl, Or.inl ⟨rfl, ?_⟩⟩, trivial⟩
         replace H := headE H
         obtain ⟨u453, hu453, H⟩ := H
         skip
         refine o_call (args := #[.slice A0p p0.length c0p, .int .i64 p4]) Try.func202 rfl rfl rfl (spec_l5First.ok sb s445 no A0p c0p p0 p4 HRp0 (Hp.own hH.bs) _ hu453) ?_
         rintro _ s453 ⟨rfl, hD⟩
         replace hR := hR.trans hD.gro
         replace hH := hH.back0 hD (Up.refl _ _ _)
         clear hD
         dsimp only [addC, setC, rmC, selC, getC] at hH
         try dsimp only [putL, setL, evL, getL]
         replace H := headE H
         obtain ⟨u454, hu454, H⟩ := H
         obtain ⟨b454, o454, cs454, hr454, hh454, hel454⟩ := Rd.elb HRp1 hu454
         obtain ⟨A455, c455, rfl, D455⟩ := hr454
         refine HK_readP 5 (v := .pointer (some ⟨b454, o454, none⟩)) rfl (by kernel_rfl) (fun c l s h => hQp c l s h) rfl (fun s' K hK => ?_) rfl rfl (fun _ => hR) ?_
         ·refine hel454 s' rfl rfl Try.underlying105 tI24 ?_
          exact hK
         try dsimp only [putL, setL, evL, getL]
         refine HK_read 6 (v := .slice A455 u454.length c455) rfl (by kernel_rfl) (fun c l s h => hQp c l s h) rfl (fun s' hR' K hK => ?_) rfl rfl hR ?_
         ·refine o_load' rfl Try.underlying24 rfl ((hh454 (hH0.bs.mono.trans hR'.mono)) 0 _ rfl) ?_
          exact hK
         try dsimp only [putL, setL, evL, getL]
         replace H := headE H
         obtain ⟨u456, hu456, H⟩ := H
         obtain ⟨b456, o456, cs456, hr456, hh456, hel456⟩ := Rd.elb D455 hu456
         obtain rfl := hr456
         refine HK_readP 12 (v := .pointer (some ⟨b456, o456, none⟩)) rfl (by kernel_rfl) (fun c l s h => hQp c l s h) rfl (fun s' K hK => ?_) rfl rfl (fun _ => hR) ?_
         ·refine hel456 s' rfl rfl Try.underlying24 tI3 ?_
          exact hK
         try dsimp only [putL, setL, evL, getL]
         refine HK_read 13 (v := .int .i64 u456) rfl (by kernel_rfl) (fun c l s h => hQp c l s h) rfl (fun s' hR' K hK => ?_) rfl rfl hR ?_
         ·refine o_load' rfl Try.underlying3 rfl ((hh456 (hH0.bs.mono.trans hR'.mono)) 0 _ rfl) ?_
          exact hK
         try dsimp only [putL, setL, evL, getL]
         refine HK_readP 26 (v := .int .i64 (IntKind.i64.wrap (u456 * u452))) rfl (by kernel_rfl) (fun c l s h => hQp c l s h) rfl (fun s' K hK => ?_) rfl rfl (fun _ => hR) ?_
         ·refine o_bin rfl rfl rfl ?_
          exact hK
         try dsimp only [putL, setL, evL, getL]
         refine HK_readP 27 (v := .int .i64 (IntKind.i64.wrap (x429 + (IntKind.i64.wrap (u456 * u452))))) rfl (by kernel_rfl) (fun c l s h => hQp c l s h) rfl (fun s' K hK => ?_) rfl rfl (fun _ => hR) ?_
         ·refine o_bin rfl rfl rfl ?_
          exact hK
         try dsimp only [putL, setL, evL, getL]
         refine HK_more [28] (by kernel_rfl) rfl (fun _ => hR) ⟨⟨_, rfl, Or.inl ⟨rfl, ?_⟩⟩, trivial⟩
         replace H := headE H
         obtain ⟨u457, hu457, H⟩ := H
         skip
         refine o_call (args := #[.int .i64 1000000, .int .i64 (IntKind.i64.wrap (x429 + (IntKind.i64.wrap (u456 * u452))))]) Try.func182 rfl rfl rfl (spec_l1Least.ok sb s453 no 1000000 (IntKind.i64.wrap (x429 + (IntKind.i64.wrap (u456 * u452)))) (Hp.own hH.bs) _ hu457) ?_
         rintro _ s457 ⟨rfl, hD⟩
         replace hR := hR.trans hD.gro
         replace hH := hH.back0 hD (Up.refl _ _ _)
         clear hD
         dsimp only [addC, setC, rmC, selC, getC] at hH
         try dsimp only [putL, setL, evL, getL]
         refine HK_more [29] (by kernel_rfl) rfl (fun _ => hR) ⟨⟨_, rfl, Or.inl ⟨rfl, ?_⟩⟩, trivial⟩
         skip
         refine o_assign ?_
         try dsimp only [putL, setL, evL, getL]
         refine HK_done (fun _ => hR) (by kernel_rfl) ?_
         refine hK449 _ _ ?_
         refine HT_region ?_
         refine HL_cons rfl ?_
         refine o_move ?_
         try dsimp only [putL, setL, evL, getL]
         refine HL_cons rfl ?_
         refine o_bin rfl rfl rfl ?_
         try dsimp only [putL, setL, evL, getL]
         refine HL_cons rfl ?_
         refine o_assign ?_
         try dsimp only [putL, setL, evL, getL]
         refine HL_nil ?_
         exact hK445 _ _ ⟨kf, Nat.lt_succ_self kf, u457, IntKind.i64.wrap (x430 + 1), H, rfl, hH⟩
        ·replace H := iteF hb448 H
         refine HT_false (congrArg Value.bool hb448) ?_
         refine HT_exit ?_
         exact hK374 _ _ ⟨x429, H, rfl, hH⟩
      ·rintro l' s458 ⟨x416, H, hl, hH⟩
       generalize getL l' 19 = j19, getL l' 78 = j78, getL l' 79 = j79, getL l' 80 = j80, getL l' 81 = j81, getL l' 82 = j82, getL l' 83 = j83, getL l' 84 = j84, getL l' 85 = j85, getL l' 86 = j86, getL l' 87 = j87, getL l' 88 = j88, getL l' 89 = j89, getL l' 90 = j90, getL l' 91 = j91, getL l' 92 = j92, getL l' 93 = j93, getL l' 94 = j94, getL l' 95 = j95, getL l' 96 = j96, getL l' 97 = j97, getL l' 98 = j98, getL l' 99 = j99, getL l' 100 = j100, getL l' 101 = j101, getL l' 102 = j102, getL l' 103 = j103, getL l' 104 = j104, getL l' 105 = j105, getL l' 106 = j106, getL l' 107 = j107, getL l' 108 = j108, getL l' 109 = j109, getL l' 110 = j110, getL l' 111 = j111 at hl
       subst hl
       replace H := hG374 _ H
       try dsimp only at H
       exact hK5 _ _ ⟨x416, H, rfl, hH⟩
     ·replace H := iteF hb372 H
      refine HT_false (congrArg Value.bool hb372) ?_
      refine HT_seq_k ?_
      intro K459 hK459
      refine HT_region ?_
      refine HL_cons rfl ?_
      refine o_bin rfl rfl rfl ?_
      try dsimp only [putL, setL, evL, getL]
      refine HL_cons rfl ?_
      refine o_assign ?_
      try dsimp only [putL, setL, evL, getL]
      refine HL_nil ?_
      refine hK459 _ _ ?_
      rcases Bool.eq_false_or_eq_true (p5_0 == 6) with hb460 | hb460
      ·replace H := iteT hb460 H
       refine HT_true (congrArg Value.bool hb460) ?_
       refine HT_seq_k ?_
       intro K461 hK461
       refine HT_seq_k ?_
       intro K462 hK462
       refine HT_region ?_
       refine HL_cons rfl ?_
       refine o_move ?_
       try dsimp only [putL, setL, evL, getL]
       refine HL_cons rfl ?_
       refine o_move ?_
       try dsimp only [putL, setL, evL, getL]
       refine HL_cons rfl ?_
       refine o_bin rfl rfl rfl ?_
       try dsimp only [putL, setL, evL, getL]
       refine HL_nil ?_
       refine hK462 _ _ ?_
       rcases Bool.eq_false_or_eq_true (p6 == p7) with hb463 | hb463
       ·replace H := iteT hb463 H
        refine HT_true (congrArg Value.bool hb463) ?_
        refine HT_seq_k ?_
        intro K464 hK464
        refine HT_region ?_
        refine HL_cons rfl ?_
        refine o_assign ?_
        try dsimp only [putL, setL, evL, getL]
        refine HL_nil ?_
        refine hK464 _ _ ?_
        refine HT_ret ?_
        replace H := escH (fun z hz => hG5 _ hz) H
        exact hQr _ _ [.int .i64 1] ⟨rfl, trivial⟩ (retH (fun r => spec_l14Cell.post sb s F0 r _ _) (show some _ = some r from H) ⟨rfl, hH.sel [] (by decide)⟩)
       ·replace H := iteF hb463 H
        refine HT_false (congrArg Value.bool hb463) ?_
        refine HT_skip ?_
        refine hK461 _ _ ?_
        refine HT_seq_k ?_
        intro K465 hK465
        refine HT_region ?_
        refine HL_cons rfl ?_
        refine o_move ?_
        try dsimp only [putL, setL, evL, getL]
        refine HL_cons rfl ?_
        refine o_bin rfl rfl rfl ?_
        try dsimp only [putL, setL, evL, getL]
        refine HL_cons rfl ?_
        refine o_assign ?_
        try dsimp only [putL, setL, evL, getL]
        refine HL_nil ?_
        refine hK465 _ _ ?_
        refine joinH H fun G466 hG466 H => ?_
        refine HT_toK (fun l' s' => ∃ (x571 : Int), G466 x571 = some r ∧ l' = [.slice A0p p0.length c0p, .slice A1p p1.length c1p, .slice A2p p2.length c2p, .slice A3p p3.length c3p, .int .i64 p4, .agg #[.int .i64 p5_0, .slice A5_1p p5_1.length c5_1p], .int .i64 p6, .int .i64 p7, undef, undef, undef, undef, undef, .pointer (some ⟨b2, 0, none⟩), undef, undef, .int .i64 0, .int .i64 (IntKind.i64.wrap ((p3.length : Int) + 1)), .int .i64 x571, undef, getL l' 20, getL l' 21, .slice A3p p3.length c3p, .int .i64 (p3.length : Int), .int .i64 (IntKind.i64.wrap ((p3.length : Int) + 1)), .pointer (some ⟨b2, 0 + 0, none⟩), .int .i64 p5_0, .bool (p5_0 == 1), .bool (p5_0 == 1), undef, undef, undef, .bool (p5_0 == 2), .bool (p5_0 == 2), undef, undef, undef, undef, undef, undef, undef, undef, undef, undef, undef, undef, undef, .bool (p5_0 == 4), .bool (p5_0 == 4), undef, undef, undef, undef, undef, undef, undef, undef, undef, undef, undef, undef, undef, undef, undef, undef, undef, undef, undef, undef, undef, undef, undef, undef, undef, undef, .bool (p5_0 == 3), .bool (p5_0 == 3), undef, undef, undef, undef, undef, undef, undef, undef, undef, undef, undef, undef, undef, undef, undef, undef, undef, undef, undef, undef, undef, undef, undef, undef, undef, undef, undef, undef, undef, undef, undef, undef, undef, undef, undef, .bool (p5_0 == 6), .bool (p5_0 == 6), .int .i64 p6, .int .i64 p7, .bool (p6 == p7), .int .i64 p6, .int .i64 (IntKind.i64.wrap (p6 + 1)), getL l' 119, getL l' 120, getL l' 121, getL l' 122, getL l' 123, getL l' 124, getL l' 125, getL l' 126, getL l' 127, getL l' 128, getL l' 129, getL l' 130, getL l' 131, getL l' 132, getL l' 133, getL l' 134, getL l' 135, getL l' 136, getL l' 137, getL l' 138, getL l' 139, getL l' 140, getL l' 141, getL l' 142, getL l' 143, getL l' 144, getL l' 145, getL l' 146, getL l' 147, getL l' 148, getL l' 149, getL l' 150, getL l' 151, undef] ∧ Hp sb s F0 s' []) ?_ ?_
        ·intro K466 hK466
         refine HT_block ?_
         refine HT_loopK (fun kf l' s' => ∃ (x605 : Int) (x606 : Int), (spec_l14Cell.l2 p1 p2 p3 p4 p6 p7 kf x605 x606).bind G466 = some r ∧ l' = [.slice A0p p0.length c0p, .slice A1p p1.length c1p, .slice A2p p2.length c2p, .slice A3p p3.length c3p, .int .i64 p4, .agg #[.int .i64 p5_0, .slice A5_1p p5_1.length c5_1p], .int .i64 p6, .int .i64 p7, undef, undef, undef, undef, undef, .pointer (some ⟨b2, 0, none⟩), undef, undef, .int .i64 0, .int .i64 (IntKind.i64.wrap ((p3.length : Int) + 1)), .int .i64 x605, undef, .int .i64 x606, getL l' 21, .slice A3p p3.length c3p, .int .i64 (p3.length : Int), .int .i64 (IntKind.i64.wrap ((p3.length : Int) + 1)), .pointer (some ⟨b2, 0 + 0, none⟩), .int .i64 p5_0, .bool (p5_0 == 1), .bool (p5_0 == 1), undef, undef, undef, .bool (p5_0 == 2), .bool (p5_0 == 2), undef, undef, undef, undef, undef, undef, undef, undef, undef, undef, undef, undef, undef, .bool (p5_0 == 4), .bool (p5_0 == 4), undef, undef, undef, undef, undef, undef, undef, undef, undef, undef, undef, undef, undef, undef, undef, undef, undef, undef, undef, undef, undef, undef, undef, undef, undef, undef, .bool (p5_0 == 3), .bool (p5_0 == 3), undef, undef, undef, undef, undef, undef, undef, undef, undef, undef, undef, undef, undef, undef, undef, undef, undef, undef, undef, undef, undef, undef, undef, undef, undef, undef, undef, undef, undef, undef, undef, undef, undef, undef, undef, .bool (p5_0 == 6), .bool (p5_0 == 6), .int .i64 p6, .int .i64 p7, .bool (p6 == p7), .int .i64 p6, .int .i64 (IntKind.i64.wrap (p6 + 1)), getL l' 119, getL l' 120, getL l' 121, getL l' 122, getL l' 123, getL l' 124, getL l' 125, getL l' 126, getL l' 127, getL l' 128, getL l' 129, getL l' 130, getL l' 131, getL l' 132, getL l' 133, getL l' 134, getL l' 135, getL l' 136, getL l' 137, getL l' 138, getL l' 139, getL l' 140, getL l' 141, getL l' 142, getL l' 143, getL l' 144, getL l' 145, getL l' 146, getL l' 147, getL l' 148, getL l' 149, getL l' 150, getL l' 151, undef] ∧ Hp sb s F0 s' []) (((p7) - (IntKind.i64.wrap (p6 + 1))).toNat + 2) ⟨0, IntKind.i64.wrap (p6 + 1), H, rfl, hH.sel [] (by decide)⟩ ?_
         rintro kf l' s642 ⟨x605, x606, H, hl, hH⟩ K642 hK642
         generalize getL l' 21 = j21, getL l' 119 = j119, getL l' 120 = j120, getL l' 121 = j121, getL l' 122 = j122, getL l' 123 = j123, getL l' 124 = j124, getL l' 125 = j125, getL l' 126 = j126, getL l' 127 = j127, getL l' 128 = j128, getL l' 129 = j129, getL l' 130 = j130, getL l' 131 = j131, getL l' 132 = j132, getL l' 133 = j133, getL l' 134 = j134, getL l' 135 = j135, getL l' 136 = j136, getL l' 137 = j137, getL l' 138 = j138, getL l' 139 = j139, getL l' 140 = j140, getL l' 141 = j141, getL l' 142 = j142, getL l' 143 = j143, getL l' 144 = j144, getL l' 145 = j145, getL l' 146 = j146, getL l' 147 = j147, getL l' 148 = j148, getL l' 149 = j149, getL l' 150 = j150, getL l' 151 = j151 at hl
         subst hl
         cases kf with
         | zero => simp [spec_l14Cell.l2] at H
         | succ kf =>
          rw [spec_l14Cell.l2] at H
          refine HT_seq_k ?_
          intro K643 hK643
          refine HT_seq_k ?_
          intro K644 hK644
          refine HT_region ?_
          refine HL_cons rfl ?_
          refine o_move ?_
          try dsimp only [putL, setL, evL, getL]
          refine HL_cons rfl ?_
          refine o_move ?_
          try dsimp only [putL, setL, evL, getL]
          refine HL_cons rfl ?_
          refine o_bin rfl rfl rfl ?_
          try dsimp only [putL, setL, evL, getL]
          refine HL_nil ?_
          refine hK644 _ _ ?_
          rcases Bool.eq_false_or_eq_true (decide (x606 ≤ p7)) with hb645 | hb645
          ·replace H := iteT hb645 H
           refine HT_true (congrArg Value.bool hb645) ?_
           refine HT_skip ?_
           refine hK643 _ _ ?_
           refine HT_seq_k ?_
           intro K661 hK661
           refine HT_block ?_
           refine HT_seq_k ?_
           intro K662 hK662
           refine HT_region ?_
           refine HL_cons rfl ?_
           refine o_assign ?_
           try dsimp only [putL, setL, evL, getL]
           refine HL_nil ?_
           refine hK662 _ _ ?_
           refine joinH H fun G663 hG663 H => ?_
           refine HT_joinK (fun l' s' => ∃ (x667 : Int), G663 x667 = some r ∧ l' = [.slice A0p p0.length c0p, .slice A1p p1.length c1p, .slice A2p p2.length c2p, .slice A3p p3.length c3p, .int .i64 p4, .agg #[.int .i64 p5_0, .slice A5_1p p5_1.length c5_1p], .int .i64 p6, .int .i64 p7, undef, undef, undef, undef, undef, .pointer (some ⟨b2, 0, none⟩), undef, undef, .int .i64 0, .int .i64 (IntKind.i64.wrap ((p3.length : Int) + 1)), .int .i64 x605, undef, .int .i64 x606, .int .i64 x667, .slice A3p p3.length c3p, .int .i64 (p3.length : Int), .int .i64 (IntKind.i64.wrap ((p3.length : Int) + 1)), .pointer (some ⟨b2, 0 + 0, none⟩), .int .i64 p5_0, .bool (p5_0 == 1), .bool (p5_0 == 1), undef, undef, undef, .bool (p5_0 == 2), .bool (p5_0 == 2), undef, undef, undef, undef, undef, undef, undef, undef, undef, undef, undef, undef, undef, .bool (p5_0 == 4), .bool (p5_0 == 4), undef, undef, undef, undef, undef, undef, undef, undef, undef, undef, undef, undef, undef, undef, undef, undef, undef, undef, undef, undef, undef, undef, undef, undef, undef, undef, .bool (p5_0 == 3), .bool (p5_0 == 3), undef, undef, undef, undef, undef, undef, undef, undef, undef, undef, undef, undef, undef, undef, undef, undef, undef, undef, undef, undef, undef, undef, undef, undef, undef, undef, undef, undef, undef, undef, undef, undef, undef, undef, undef, .bool (p5_0 == 6), .bool (p5_0 == 6), .int .i64 p6, .int .i64 p7, .bool (p6 == p7), .int .i64 p6, .int .i64 (IntKind.i64.wrap (p6 + 1)), .int .i64 x606, .int .i64 p7, .bool (decide (x606 ≤ p7)), j122, j123, getL l' 124, getL l' 125, getL l' 126, getL l' 127, getL l' 128, getL l' 129, getL l' 130, getL l' 131, getL l' 132, getL l' 133, getL l' 134, j135, j136, j137, j138, j139, j140, j141, j142, j143, j144, j145, j146, j147, j148, j149, j150, j151, undef] ∧ Hp sb s F0 s' []) ?_ ?_
           ·intro K663 hK663
            refine HT_seq_k ?_
            intro K668 hK668
            refine HT_region ?_
            refine HL_cons rfl ?_
            refine o_move ?_
            try dsimp only [putL, setL, evL, getL]
            refine HL_cons rfl ?_
            refine o_move ?_
            try dsimp only [putL, setL, evL, getL]
            refine HL_cons rfl ?_
            refine o_bin rfl rfl rfl ?_
            try dsimp only [putL, setL, evL, getL]
            refine HL_nil ?_
            refine hK668 _ _ ?_
            rcases Bool.eq_false_or_eq_true (decide (x606 < p7)) with hb669 | hb669
            ·replace H := iteT hb669 H
             refine HT_true (congrArg Value.bool hb669) ?_
             refine HT_region ?_
             refine HL_cons rfl ?_
             refine o_move ?_
             try dsimp only [putL, setL, evL, getL]
             refine HL_cons rfl ?_
             refine o_move ?_
             try dsimp only [putL, setL, evL, getL]
             refine HL_cons rfl ?_
             refine o_move ?_
             try dsimp only [putL, setL, evL, getL]
             refine HL_cons rfl ?_
             refine o_bin rfl rfl rfl ?_
             try dsimp only [putL, setL, evL, getL]
             refine HL_cons rfl ?_
             refine o_move ?_
             try dsimp only [putL, setL, evL, getL]
             refine HL_cons rfl ?_
             refine o_bin rfl rfl rfl ?_
             try dsimp only [putL, setL, evL, getL]
             replace H := headE H
             obtain ⟨u670, hu670, H⟩ := H
             obtain ⟨b670, o670, cs670, hr670, hh670, hel670⟩ := Rd.elb HRp2 hu670
             obtain rfl := hr670
             refine HL_cons rfl ?_
             refine hel670 s642 rfl rfl Try.underlying24 tI3 ?_
             try dsimp only [putL, setL, evL, getL]
             refine HL_cons rfl ?_
             refine o_load' rfl Try.underlying3 rfl ((hh670 hH.bs.mono) 0 _ rfl) ?_
             try dsimp only [putL, setL, evL, getL]
             refine HL_cons rfl ?_
             refine o_assign ?_
             try dsimp only [putL, setL, evL, getL]
             refine HL_nil ?_
             exact hK663 _ _ ⟨u670, H, rfl, hH⟩
            ·replace H := iteF hb669 H
             refine HT_false (congrArg Value.bool hb669) ?_
             refine HT_skip ?_
             exact hK663 _ _ ⟨1, H, rfl, hH⟩
           ·rintro l' s671 ⟨x667, H, hl, hH⟩
            generalize getL l' 124 = j124, getL l' 125 = j125, getL l' 126 = j126, getL l' 127 = j127, getL l' 128 = j128, getL l' 129 = j129, getL l' 130 = j130, getL l' 131 = j131, getL l' 132 = j132, getL l' 133 = j133, getL l' 134 = j134 at hl
            subst hl
            replace H := hG663 _ H
            try dsimp only at H
            refine HT_region ?_
            refine HL_cons rfl ?_
            refine o_move ?_
            try dsimp only [putL, setL, evL, getL]
            refine HL_cons rfl ?_
            refine o_move ?_
            try dsimp only [putL, setL, evL, getL]
            refine HL_cons rfl ?_
            refine o_move ?_
            try dsimp only [putL, setL, evL, getL]
            refine HL_cons rfl ?_
            refine o_bin rfl rfl rfl ?_
            try dsimp only [putL, setL, evL, getL]
            replace H := headE H
            obtain ⟨u672, hu672, H⟩ := H
            obtain ⟨b672, o672, cs672, hr672, hh672, hel672⟩ := Rd.elb HRp1 hu672
            obtain ⟨A673, c673, rfl, D673⟩ := hr672
            refine HL_cons rfl ?_
            refine hel672 s671 rfl rfl Try.underlying105 tI24 ?_
            try dsimp only [putL, setL, evL, getL]
            refine HL_cons rfl ?_
            refine o_load' rfl Try.underlying24 rfl ((hh672 hH.bs.mono) 0 _ rfl) ?_
            try dsimp only [putL, setL, evL, getL]
            refine HL_cons rfl ?_
            refine o_move ?_
            try dsimp only [putL, setL, evL, getL]
            refine HL_cons rfl ?_
            refine o_move ?_
            try dsimp only [putL, setL, evL, getL]
            refine HL_cons rfl ?_
            refine o_bin rfl rfl rfl ?_
            try dsimp only [putL, setL, evL, getL]
            refine HL_cons rfl ?_
            refine o_move ?_
            try dsimp only [putL, setL, evL, getL]
            refine HL_cons rfl ?_
            refine o_bin rfl rfl rfl ?_
            try dsimp only [putL, setL, evL, getL]
            replace H := headE H
            obtain ⟨u674, hu674, H⟩ := H
            obtain ⟨b674, o674, cs674, hr674, hh674, hel674⟩ := Rd.elb D673 hu674
            obtain rfl := hr674
            refine HL_cons rfl ?_
            refine hel674 s671 rfl rfl Try.underlying24 tI3 ?_
            try dsimp only [putL, setL, evL, getL]
            refine HL_cons rfl ?_
            refine o_load' rfl Try.underlying3 rfl ((hh674 hH.bs.mono) 0 _ rfl) ?_
            try dsimp only [putL, setL, evL, getL]
            refine HL_cons rfl ?_
            refine o_move ?_
            try dsimp only [putL, setL, evL, getL]
            refine HL_cons rfl ?_
            refine o_bin rfl rfl rfl ?_
            try dsimp only [putL, setL, evL, getL]
            refine HL_cons rfl ?_
            refine o_bin rfl rfl rfl ?_
            try dsimp only [putL, setL, evL, getL]
            replace H := headE H
            obtain ⟨u675, hu675, H⟩ := H
            refine HL_cons rfl ?_
            refine o_call (args := #[.int .i64 1000000, .int .i64 (IntKind.i64.wrap (x605 + (IntKind.i64.wrap (u674 * x667))))]) Try.func182 rfl rfl rfl (spec_l1Least.ok sb s671 no 1000000 (IntKind.i64.wrap (x605 + (IntKind.i64.wrap (u674 * x667)))) (Hp.own hH.bs) _ hu675) ?_
            rintro _ s675 ⟨rfl, hD⟩
            replace hH := hH.back0 hD (Up.refl _ _ _)
            clear hD
            dsimp only [addC, setC, rmC, selC, getC] at hH
            try dsimp only [putL, setL, evL, getL]
            refine HL_cons rfl ?_
            refine o_assign ?_
            try dsimp only [putL, setL, evL, getL]
            refine HL_nil ?_
            refine hK661 _ _ ?_
            refine HT_region ?_
            refine HL_cons rfl ?_
            refine o_move ?_
            try dsimp only [putL, setL, evL, getL]
            refine HL_cons rfl ?_
            refine o_bin rfl rfl rfl ?_
            try dsimp only [putL, setL, evL, getL]
            refine HL_cons rfl ?_
            refine o_assign ?_
            try dsimp only [putL, setL, evL, getL]
            refine HL_nil ?_
            exact hK642 _ _ ⟨kf, Nat.lt_succ_self kf, u675, IntKind.i64.wrap (x606 + 1), H, rfl, hH⟩
          ·replace H := iteF hb645 H
           refine HT_false (congrArg Value.bool hb645) ?_
           refine HT_exit ?_
           exact hK466 _ _ ⟨x605, H, rfl, hH⟩
        ·rintro l' s676 ⟨x571, H, hl, hH⟩
         generalize getL l' 20 = j20, getL l' 21 = j21, getL l' 119 = j119, getL l' 120 = j120, getL l' 121 = j121, getL l' 122 = j122, getL l' 123 = j123, getL l' 124 = j124, getL l' 125 = j125, getL l' 126 = j126, getL l' 127 = j127, getL l' 128 = j128, getL l' 129 = j129, getL l' 130 = j130, getL l' 131 = j131, getL l' 132 = j132, getL l' 133 = j133, getL l' 134 = j134, getL l' 135 = j135, getL l' 136 = j136, getL l' 137 = j137, getL l' 138 = j138, getL l' 139 = j139, getL l' 140 = j140, getL l' 141 = j141, getL l' 142 = j142, getL l' 143 = j143, getL l' 144 = j144, getL l' 145 = j145, getL l' 146 = j146, getL l' 147 = j147, getL l' 148 = j148, getL l' 149 = j149, getL l' 150 = j150, getL l' 151 = j151 at hl
         subst hl
         replace H := hG466 _ H
         try dsimp only at H
         exact hK5 _ _ ⟨x571, H, rfl, hH⟩
      ·replace H := iteF hb460 H
       refine HT_false (congrArg Value.bool hb460) ?_
       refine HT_skip ?_
       exact hK5 _ _ ⟨0, H, rfl, hH.sel [] (by decide)⟩
 ·rintro l' s677 ⟨x341, H, hl, hH⟩
  generalize getL l' 16 = j16, getL l' 19 = j19, getL l' 20 = j20, getL l' 21 = j21, getL l' 25 = j25, getL l' 26 = j26, getL l' 27 = j27, getL l' 28 = j28, getL l' 29 = j29, getL l' 30 = j30, getL l' 31 = j31, getL l' 32 = j32, getL l' 33 = j33, getL l' 34 = j34, getL l' 35 = j35, getL l' 36 = j36, getL l' 37 = j37, getL l' 38 = j38, getL l' 39 = j39, getL l' 40 = j40, getL l' 41 = j41, getL l' 42 = j42, getL l' 43 = j43, getL l' 44 = j44, getL l' 45 = j45, getL l' 46 = j46, getL l' 47 = j47, getL l' 48 = j48, getL l' 49 = j49, getL l' 50 = j50, getL l' 51 = j51, getL l' 52 = j52, getL l' 53 = j53, getL l' 54 = j54, getL l' 55 = j55, getL l' 56 = j56, getL l' 57 = j57, getL l' 58 = j58, getL l' 59 = j59, getL l' 60 = j60, getL l' 61 = j61, getL l' 62 = j62, getL l' 63 = j63, getL l' 64 = j64, getL l' 65 = j65, getL l' 66 = j66, getL l' 67 = j67, getL l' 68 = j68, getL l' 69 = j69, getL l' 70 = j70, getL l' 71 = j71, getL l' 72 = j72, getL l' 73 = j73, getL l' 74 = j74, getL l' 75 = j75, getL l' 76 = j76, getL l' 77 = j77, getL l' 78 = j78, getL l' 79 = j79, getL l' 80 = j80, getL l' 81 = j81, getL l' 82 = j82, getL l' 83 = j83, getL l' 84 = j84, getL l' 85 = j85, getL l' 86 = j86, getL l' 87 = j87, getL l' 88 = j88, getL l' 89 = j89, getL l' 90 = j90, getL l' 91 = j91, getL l' 92 = j92, getL l' 93 = j93, getL l' 94 = j94, getL l' 95 = j95, getL l' 96 = j96, getL l' 97 = j97, getL l' 98 = j98, getL l' 99 = j99, getL l' 100 = j100, getL l' 101 = j101, getL l' 102 = j102, getL l' 103 = j103, getL l' 104 = j104, getL l' 105 = j105, getL l' 106 = j106, getL l' 107 = j107, getL l' 108 = j108, getL l' 109 = j109, getL l' 110 = j110, getL l' 111 = j111, getL l' 112 = j112, getL l' 113 = j113, getL l' 114 = j114, getL l' 115 = j115, getL l' 116 = j116, getL l' 117 = j117, getL l' 118 = j118, getL l' 119 = j119, getL l' 120 = j120, getL l' 121 = j121, getL l' 122 = j122, getL l' 123 = j123, getL l' 124 = j124, getL l' 125 = j125, getL l' 126 = j126, getL l' 127 = j127, getL l' 128 = j128, getL l' 129 = j129, getL l' 130 = j130, getL l' 131 = j131, getL l' 132 = j132, getL l' 133 = j133, getL l' 134 = j134, getL l' 135 = j135, getL l' 136 = j136, getL l' 137 = j137, getL l' 138 = j138, getL l' 139 = j139, getL l' 140 = j140, getL l' 141 = j141, getL l' 142 = j142, getL l' 143 = j143, getL l' 144 = j144, getL l' 145 = j145, getL l' 146 = j146, getL l' 147 = j147, getL l' 148 = j148, getL l' 149 = j149, getL l' 150 = j150, getL l' 151 = j151 at hl
  subst hl
  replace H := hG5 _ H
  try dsimp only at H
  refine HT_seq_k ?_
  intro K678 hK678
  refine HT_region ?_
  refine HL_cons rfl ?_
  refine o_move ?_
  try dsimp only [putL, setL, evL, getL]
  refine HL_cons rfl ?_
  refine o_assign ?_
  try dsimp only [putL, setL, evL, getL]
  refine HL_nil ?_
  refine hK678 _ _ ?_
  refine HT_ret ?_
  exact hQr _ _ [.int .i64 x341] ⟨rfl, trivial⟩ (retH (fun r => spec_l14Cell.post sb s F0 r _ _) (show some _ = some r from H) ⟨rfl, hH⟩)
def spec_l14Counts.l3 (p0 : List ((Int) × (List (Int)))) (p1 : List (Int)) (x6473 : List (List (Int))) (x6474 : Int) (u8902 : (Int) × (List (Int))) (x9438 : Int) : Nat → (List (Int)) → Int → Option (List (Int))
 | 0, _, _ => none
 | kf + 1, x9679, x9680 => if (decide (x9680 < (IntKind.i64.wrap ((p1.length : Int) + 1)))) = true then ((spec_l14Cell.f p0 x6473 x9679 p1 x6474 u8902.1 u8902.2 x9438 x9680).bind fun u9696 => (spec_l1Least.f 1000000 u9696).bind fun u9697 => (rd? x9679 (IntKind.i64.wrap ((IntKind.i64.wrap (x9438 * (IntKind.i64.wrap ((p1.length : Int) + 1)))) + x9680))).bind fun u9698 => (st? x9679 (IntKind.i64.wrap ((IntKind.i64.wrap (x9438 * (IntKind.i64.wrap ((p1.length : Int) + 1)))) + x9680)) u9697).bind fun x9699 => spec_l14Counts.l3 p0 p1 x6473 x6474 u8902 x9438 kf x9699 (IntKind.i64.wrap (x9680 + 1))) else (some x9679)
def spec_l14Counts.l2 (p0 : List ((Int) × (List (Int)))) (p1 : List (Int)) (x6473 : List (List (Int))) (x6474 : Int) (u8902 : (Int) × (List (Int))) : Nat → (List (Int)) → Int → Option (List (Int))
 | 0, _, _ => none
 | kf + 1, x9437, x9438 => if (decide (x9438 ≥ 0)) = true then (((spec_l14Counts.l3 p0 p1 x6473 x6474 u8902 x9438 (((IntKind.i64.wrap ((p1.length : Int) + 1)) - (x9438)).toNat + 2) x9437 x9438).bind fun (o : (List (Int))) => match o with | x9670 => (some x9670)).bind fun (o : (List (Int))) => match o with | x9638 => (spec_l14Counts.l2 p0 p1 x6473 x6474 u8902 kf x9638 (IntKind.i64.wrap (x9438 - 1)))) else (some x9437)
def spec_l14Counts.l1 (p0 : List ((Int) × (List (Int)))) (p1 : List (Int)) : Nat → (List (List (Int))) → Int → Option (List (List (Int)))
 | 0, _, _ => none
 | kf + 1, x6473, x6474 => if (decide (x6474 < (p0.length : Int))) = true then (((rd? p0 x6474).bind fun u8902 => (mk? 17592186044416 0 (IntKind.i64.wrap ((IntKind.i64.wrap ((p1.length : Int) + 1)) * (IntKind.i64.wrap ((p1.length : Int) + 1))))).bind fun x8907 => (spec_l14Counts.l2 p0 p1 x6473 x6474 u8902 (((IntKind.i64.wrap ((IntKind.i64.wrap ((p1.length : Int) + 1)) - 1)) - (0)).toNat + 2) x8907 (IntKind.i64.wrap ((IntKind.i64.wrap ((p1.length : Int) + 1)) - 1))).bind fun (o : (List (Int))) => match o with | x9306 => ((app? 5864062014805 x6473 [x9306]).bind fun x9704 => some x9704)).bind fun (o : (List (List (Int)))) => match o with | x8900 => (spec_l14Counts.l1 p0 p1 kf x8900 (IntKind.i64.wrap (x6474 + 1)))) else (some x6473)
def spec_l14Counts.f (p0 : List ((Int) × (List (Int)))) (p1 : List (Int)) : Option (List (List (Int))) := (spec_l14Counts.l1 p0 p1 ((((p0.length : Int)) - (0)).toNat + 2) [] 0).bind fun (o : (List (List (Int)))) => match o with | x4856 => (some x4856)
def spec_l14Counts.post (sb s : St) (F0 : Fp) (r : (List (List (Int)))) : Value → St → Prop := fun v s' => ∃ (A0 : Option Addr) (c0 : Nat), v = .slice A0 r.length c0 ∧ Hp sb s F0 s' [Ck.ol (Ow.sl OI 3) 24 A0 c0 r]
set_option maxRecDepth 100000 in
set_option maxHeartbeats 4000000 in
theorem spec_l14Counts.ok (sb s : St) (F0 : Fp) (A0p : Option Addr) (c0p : Nat) (p0 : List ((Int) × (List (Int)))) (A1p : Option Addr) (c1p : Nat) (p1 : List (Int)) (HRp0 : Rd KS139 sb A0p c0p p0) (HRp1 : Rd KI sb A1p c1p p1) (hH : Hp sb s F0 s []) (r : (List (List (Int)))) (H : spec_l14Counts.f p0 p1 = some r) : GCall Try.prog 151 #[.slice A0p p0.length c0p, .slice A1p p1.length c1p] s (spec_l14Counts.post sb s F0 r) := by
 refine GCall_ofk [.tmp 4] [.slice A0p p0.length c0p, .slice A1p p1.length c1p, undef, undef, undef, undef, undef, undef, undef, undef, undef, undef, undef, undef, undef, undef, undef, undef, undef, undef, undef, undef, undef, undef, undef, undef, undef, undef, undef, undef, undef, undef, undef, undef, undef, undef, undef, undef, undef, undef, undef, undef, undef, undef, undef, undef, undef, undef, undef, undef, undef, undef, undef, undef, undef, undef, undef, undef, undef, undef, undef] Try.func151 rfl rfl rfl ?_
 intro w Q hQr hQn hQp
 replace H := topE H
 unfold spec_l14Counts.f at H
 refine HT_seq_k ?_
 intro K1 hK1
 refine HT_region ?_
 refine HL_cons rfl ?_
 refine o_assign ?_
 try dsimp only [putL, setL, evL, getL]
 refine HL_nil ?_
 refine hK1 _ _ ?_
 refine HT_seq_k ?_
 intro K2 hK2
 refine HT_region ?_
 refine HL_cons rfl ?_
 refine o_move ?_
 try dsimp only [putL, setL, evL, getL]
 refine HL_cons rfl ?_
 refine o_len rfl Try.underlying24 ?_
 try dsimp only [putL, setL, evL, getL]
 refine HL_cons rfl ?_
 refine o_bin rfl rfl rfl ?_
 try dsimp only [putL, setL, evL, getL]
 refine HL_cons rfl ?_
 refine o_assign ?_
 try dsimp only [putL, setL, evL, getL]
 refine HL_nil ?_
 refine hK2 _ _ ?_
 refine HT_seq_k ?_
 intro K3 hK3
 refine HT_region ?_
 refine HL_cons rfl ?_
 refine o_assign ?_
 try dsimp only [putL, setL, evL, getL]
 refine HL_nil ?_
 refine hK3 _ _ ?_
 refine HT_seq_k ?_
 intro K4 hK4
 refine HT_seq_k ?_
 intro K5 hK5
 refine HT_region ?_
 refine HL_cons rfl ?_
 refine o_move ?_
 try dsimp only [putL, setL, evL, getL]
 refine HL_cons rfl ?_
 refine o_len rfl Try.underlying57 ?_
 try dsimp only [putL, setL, evL, getL]
 refine HL_cons rfl ?_
 refine o_move ?_
 try dsimp only [putL, setL, evL, getL]
 refine HL_nil ?_
 refine hK5 _ _ ?_
 refine joinH H fun G6 hG6 H => ?_
 refine HT_toK (fun l' s' => ∃ (x4856 : List (List (Int))) (A4856 : Option Addr) (c4856 : Nat), G6 x4856 = some r ∧ l' = [.slice A0p p0.length c0p, .slice A1p p1.length c1p, undef, undef, .slice none 0 0, .int .i64 (IntKind.i64.wrap ((p1.length : Int) + 1)), .slice A4856 x4856.length c4856, getL l' 7, getL l' 8, getL l' 9, getL l' 10, getL l' 11, .slice A1p p1.length c1p, .int .i64 (p1.length : Int), .int .i64 (IntKind.i64.wrap ((p1.length : Int) + 1)), .slice A0p p0.length c0p, .int .i64 (p0.length : Int), getL l' 17, getL l' 18, getL l' 19, getL l' 20, getL l' 21, getL l' 22, getL l' 23, getL l' 24, getL l' 25, getL l' 26, getL l' 27, getL l' 28, getL l' 29, getL l' 30, getL l' 31, getL l' 32, getL l' 33, getL l' 34, getL l' 35, getL l' 36, getL l' 37, getL l' 38, getL l' 39, getL l' 40, getL l' 41, getL l' 42, getL l' 43, getL l' 44, getL l' 45, getL l' 46, getL l' 47, getL l' 48, getL l' 49, getL l' 50, getL l' 51, getL l' 52, getL l' 53, getL l' 54, getL l' 55, getL l' 56, getL l' 57, getL l' 58, getL l' 59, undef] ∧ Hp sb s F0 s' [Ck.ol (Ow.sl OI 3) 24 A4856 c4856 x4856]) ?_ ?_
 ·intro K6 hK6
  refine HT_block ?_
  refine HT_loopK (fun kf l' s' => ∃ (x6473 : List (List (Int))) (A6473 : Option Addr) (c6473 : Nat) (x6474 : Int), (spec_l14Counts.l1 p0 p1 kf x6473 x6474).bind G6 = some r ∧ l' = [.slice A0p p0.length c0p, .slice A1p p1.length c1p, undef, undef, .slice none 0 0, .int .i64 (IntKind.i64.wrap ((p1.length : Int) + 1)), .slice A6473 x6473.length c6473, getL l' 7, getL l' 8, getL l' 9, getL l' 10, getL l' 11, .slice A1p p1.length c1p, .int .i64 (p1.length : Int), .int .i64 (IntKind.i64.wrap ((p1.length : Int) + 1)), .slice A0p p0.length c0p, .int .i64 (p0.length : Int), .int .i64 x6474, getL l' 18, getL l' 19, getL l' 20, getL l' 21, getL l' 22, getL l' 23, getL l' 24, getL l' 25, getL l' 26, getL l' 27, getL l' 28, getL l' 29, getL l' 30, getL l' 31, getL l' 32, getL l' 33, getL l' 34, getL l' 35, getL l' 36, getL l' 37, getL l' 38, getL l' 39, getL l' 40, getL l' 41, getL l' 42, getL l' 43, getL l' 44, getL l' 45, getL l' 46, getL l' 47, getL l' 48, getL l' 49, getL l' 50, getL l' 51, getL l' 52, getL l' 53, getL l' 54, getL l' 55, getL l' 56, getL l' 57, getL l' 58, getL l' 59, undef] ∧ Hp sb s F0 s' [Ck.ol (Ow.sl OI 3) 24 A6473 c6473 x6473]) ((((p0.length : Int)) - (0)).toNat + 2) ⟨[], none, 0, 0, H, rfl, (hH.nil (K := (Kd.sl KI)) (Ow.sl OI 3) 24)⟩ ?_
  rintro kf l' s8091 ⟨x6473, A6473, c6473, x6474, H, hl, hH⟩ K8091 hK8091
  generalize getL l' 7 = j7, getL l' 8 = j8, getL l' 9 = j9, getL l' 10 = j10, getL l' 11 = j11, getL l' 18 = j18, getL l' 19 = j19, getL l' 20 = j20, getL l' 21 = j21, getL l' 22 = j22, getL l' 23 = j23, getL l' 24 = j24, getL l' 25 = j25, getL l' 26 = j26, getL l' 27 = j27, getL l' 28 = j28, getL l' 29 = j29, getL l' 30 = j30, getL l' 31 = j31, getL l' 32 = j32, getL l' 33 = j33, getL l' 34 = j34, getL l' 35 = j35, getL l' 36 = j36, getL l' 37 = j37, getL l' 38 = j38, getL l' 39 = j39, getL l' 40 = j40, getL l' 41 = j41, getL l' 42 = j42, getL l' 43 = j43, getL l' 44 = j44, getL l' 45 = j45, getL l' 46 = j46, getL l' 47 = j47, getL l' 48 = j48, getL l' 49 = j49, getL l' 50 = j50, getL l' 51 = j51, getL l' 52 = j52, getL l' 53 = j53, getL l' 54 = j54, getL l' 55 = j55, getL l' 56 = j56, getL l' 57 = j57, getL l' 58 = j58, getL l' 59 = j59 at hl
  subst hl
  cases kf with
  | zero => simp [spec_l14Counts.l1] at H
  | succ kf =>
   rw [spec_l14Counts.l1] at H
   refine HT_seq_k ?_
   intro K8092 hK8092
   refine HT_region ?_
   refine HL_cons rfl ?_
   refine o_bin rfl rfl rfl ?_
   try dsimp only [putL, setL, evL, getL]
   refine HL_nil ?_
   refine hK8092 _ _ ?_
   refine HT_seq_k ?_
   intro K8093 hK8093
   rcases Bool.eq_false_or_eq_true (decide (x6474 < (p0.length : Int))) with hb8094 | hb8094
   ·replace H := iteT hb8094 H
    refine HT_true (congrArg Value.bool hb8094) ?_
    refine HT_skip ?_
    refine hK8093 _ _ ?_
    refine joinH H fun G8095 hG8095 H => ?_
    refine HT_joinK (fun l' s' => ∃ (x8900 : List (List (Int))) (A8900 : Option Addr) (c8900 : Nat), G8095 x8900 = some r ∧ l' = [.slice A0p p0.length c0p, .slice A1p p1.length c1p, undef, undef, .slice none 0 0, .int .i64 (IntKind.i64.wrap ((p1.length : Int) + 1)), .slice A8900 x8900.length c8900, getL l' 7, getL l' 8, getL l' 9, getL l' 10, getL l' 11, .slice A1p p1.length c1p, .int .i64 (p1.length : Int), .int .i64 (IntKind.i64.wrap ((p1.length : Int) + 1)), .slice A0p p0.length c0p, .int .i64 (p0.length : Int), .int .i64 x6474, .bool (decide (x6474 < (p0.length : Int))), getL l' 19, getL l' 20, getL l' 21, getL l' 22, getL l' 23, getL l' 24, getL l' 25, getL l' 26, getL l' 27, getL l' 28, getL l' 29, getL l' 30, getL l' 31, getL l' 32, getL l' 33, getL l' 34, getL l' 35, getL l' 36, getL l' 37, getL l' 38, getL l' 39, getL l' 40, getL l' 41, getL l' 42, getL l' 43, getL l' 44, getL l' 45, getL l' 46, getL l' 47, getL l' 48, getL l' 49, getL l' 50, getL l' 51, getL l' 52, getL l' 53, getL l' 54, getL l' 55, getL l' 56, getL l' 57, getL l' 58, j59, undef] ∧ Hp sb s F0 s' [Ck.ol (Ow.sl OI 3) 24 A8900 c8900 x8900]) ?_ ?_
    ·intro K8095 hK8095
     refine HT_block ?_
     refine HT_seq_k ?_
     intro K8901 hK8901
     refine HT_region ?_
     refine HL_cons rfl ?_
     refine o_move ?_
     try dsimp only [putL, setL, evL, getL]
     replace H := headE H
     obtain ⟨u8902, hu8902, H⟩ := H
     obtain ⟨b8902, o8902, cs8902, hr8902, hh8902, hel8902⟩ := Rd.elb HRp0 hu8902
     obtain ⟨_, _, rfl, rfl, ⟨A8903, c8903, rfl, D8903⟩⟩ := hr8902
     refine HL_cons rfl ?_
     refine hel8902 s8091 rfl rfl Try.underlying57 tI139 ?_
     try dsimp only [putL, setL, evL, getL]
     refine HL_cons rfl ?_
     refine o_loads' [.int .i64 u8902.1, .slice A8903 u8902.2.length c8903] rfl Try.underlying139 rfl tI139 rfl (fun j v hj => (hh8902 hH.bs.mono) j v hj) ?_
     try dsimp only [putL, setL, evL, getL]
     refine HL_cons rfl ?_
     refine o_allocH hH tI139 ?_
     intro b8904 s8904 hH' hG
     replace hH : Hp sb s F0 s8904 [Ck.ol (Ow.sl OI 3) 24 A6473 c6473 x6473, Ck.ov b8904 [.int .i64 0, .slice none 0 0] 139] := hH'
     clear hH' hG
     try dsimp only [putL, setL, evL, getL]
     refine HL_cons rfl ?_
     refine o_assign ?_
     try dsimp only [putL, setL, evL, getL]
     refine HL_cons rfl ?_
     refine o_stvH (vs := [.int .i64 u8902.1, .slice A8903 u8902.2.length c8903]) (us' := [.int .i64 u8902.1, .slice A8903 u8902.2.length c8903]) hH 1 rfl rfl rfl rfl rfl tI139 rfl (List.cons_ne_nil _ _) rfl rfl rfl ?_
     intro s8905 hH'
     replace hH : Hp sb s F0 s8905 [Ck.ol (Ow.sl OI 3) 24 A6473 c6473 x6473, Ck.ov b8904 [.int .i64 u8902.1, .slice A8903 u8902.2.length c8903] 139] := hH'
     clear hH'
     try dsimp only [putL, setL, evL, getL]
     refine HL_nil ?_
     refine hK8901 _ _ ?_
     refine HT_seq_k ?_
     intro K8906 hK8906
     refine HT_region ?_
     refine HL_cons rfl ?_
     refine o_move ?_
     try dsimp only [putL, setL, evL, getL]
     refine HL_cons rfl ?_
     refine o_move ?_
     try dsimp only [putL, setL, evL, getL]
     refine HL_cons rfl ?_
     refine o_bin rfl rfl rfl ?_
     try dsimp only [putL, setL, evL, getL]
     replace H := headE H
     obtain ⟨x8907, hx8907, H⟩ := H
     refine HL_cons rfl ?_
     refine o_makeH (K := KI) (O := OI) (x0 := 0) hH rfl Try.underlying24 tI3 rfl (by decide) (by decide) (by decide) (Own0.fl fun _ => rfl) hx8907 ?_
     intro A8907 c8907 s8907 hH' hG
     replace hH : Hp sb s F0 s8907 [Ck.ol (Ow.sl OI 3) 24 A6473 c6473 x6473, Ck.ov b8904 [.int .i64 u8902.1, .slice A8903 u8902.2.length c8903] 139, Ck.ol OI 3 A8907 c8907 x8907] := hH'
     clear hH' hG
     try dsimp only [putL, setL, evL, getL]
     refine HL_cons rfl ?_
     refine o_assign ?_
     try dsimp only [putL, setL, evL, getL]
     refine HL_nil ?_
     refine hK8906 _ _ ?_
     refine HT_seq_k ?_
     intro K8908 hK8908
     refine HT_seq_k ?_
     intro K8909 hK8909
     refine HT_region ?_
     refine HL_cons rfl ?_
     refine o_move ?_
     try dsimp only [putL, setL, evL, getL]
     refine HL_cons rfl ?_
     refine o_bin rfl rfl rfl ?_
     try dsimp only [putL, setL, evL, getL]
     refine HL_cons rfl ?_
     refine o_assign ?_
     try dsimp only [putL, setL, evL, getL]
     refine HL_nil ?_
     refine hK8909 _ _ ?_
     refine joinH H fun G8910 hG8910 H => ?_
     refine HT_toK (fun l' s' => ∃ (x9306 : List (Int)), G8910 x9306 = some r ∧ l' = [.slice A0p p0.length c0p, .slice A1p p1.length c1p, undef, undef, .slice none 0 0, .int .i64 (IntKind.i64.wrap ((p1.length : Int) + 1)), .slice A6473 x6473.length c6473, .int .i64 x6474, .pointer (some ⟨b8904, 0, none⟩), .slice A8907 x8907.length c8907, getL l' 10, getL l' 11, .slice A1p p1.length c1p, .int .i64 (p1.length : Int), .int .i64 (IntKind.i64.wrap ((p1.length : Int) + 1)), .slice A0p p0.length c0p, .int .i64 (p0.length : Int), .int .i64 x6474, .bool (decide (x6474 < (p0.length : Int))), .int .i64 x6474, .pointer (some ⟨b8902, o8902, none⟩), .agg #[.int .i64 u8902.1, .slice A8903 u8902.2.length c8903], .int .i64 (IntKind.i64.wrap ((p1.length : Int) + 1)), .int .i64 (IntKind.i64.wrap ((p1.length : Int) + 1)), .int .i64 (IntKind.i64.wrap ((IntKind.i64.wrap ((p1.length : Int) + 1)) * (IntKind.i64.wrap ((p1.length : Int) + 1)))), .slice A8907 x8907.length c8907, .int .i64 (IntKind.i64.wrap ((p1.length : Int) + 1)), .int .i64 (IntKind.i64.wrap ((IntKind.i64.wrap ((p1.length : Int) + 1)) - 1)), getL l' 28, getL l' 29, getL l' 30, getL l' 31, getL l' 32, getL l' 33, getL l' 34, getL l' 35, getL l' 36, getL l' 37, getL l' 38, getL l' 39, getL l' 40, getL l' 41, getL l' 42, getL l' 43, getL l' 44, getL l' 45, getL l' 46, getL l' 47, getL l' 48, getL l' 49, getL l' 50, getL l' 51, getL l' 52, getL l' 53, getL l' 54, j55, j56, j57, j58, j59, undef] ∧ Hp sb s F0 s' [Ck.ol (Ow.sl OI 3) 24 A6473 c6473 x6473, Ck.ol OI 3 A8907 c8907 x9306] ∧ x9306.length = x8907.length) ?_ ?_
     ·intro K8910 hK8910
      refine HT_block ?_
      refine HT_loopK (fun kf l' s' => ∃ (x9437 : List (Int)) (x9438 : Int), (spec_l14Counts.l2 p0 p1 x6473 x6474 u8902 kf x9437 x9438).bind G8910 = some r ∧ l' = [.slice A0p p0.length c0p, .slice A1p p1.length c1p, undef, undef, .slice none 0 0, .int .i64 (IntKind.i64.wrap ((p1.length : Int) + 1)), .slice A6473 x6473.length c6473, .int .i64 x6474, .pointer (some ⟨b8904, 0, none⟩), .slice A8907 x8907.length c8907, .int .i64 x9438, getL l' 11, .slice A1p p1.length c1p, .int .i64 (p1.length : Int), .int .i64 (IntKind.i64.wrap ((p1.length : Int) + 1)), .slice A0p p0.length c0p, .int .i64 (p0.length : Int), .int .i64 x6474, .bool (decide (x6474 < (p0.length : Int))), .int .i64 x6474, .pointer (some ⟨b8902, o8902, none⟩), .agg #[.int .i64 u8902.1, .slice A8903 u8902.2.length c8903], .int .i64 (IntKind.i64.wrap ((p1.length : Int) + 1)), .int .i64 (IntKind.i64.wrap ((p1.length : Int) + 1)), .int .i64 (IntKind.i64.wrap ((IntKind.i64.wrap ((p1.length : Int) + 1)) * (IntKind.i64.wrap ((p1.length : Int) + 1)))), .slice A8907 x8907.length c8907, .int .i64 (IntKind.i64.wrap ((p1.length : Int) + 1)), .int .i64 (IntKind.i64.wrap ((IntKind.i64.wrap ((p1.length : Int) + 1)) - 1)), getL l' 28, getL l' 29, getL l' 30, getL l' 31, getL l' 32, getL l' 33, getL l' 34, getL l' 35, getL l' 36, getL l' 37, getL l' 38, getL l' 39, getL l' 40, getL l' 41, getL l' 42, getL l' 43, getL l' 44, getL l' 45, getL l' 46, getL l' 47, getL l' 48, getL l' 49, getL l' 50, getL l' 51, getL l' 52, getL l' 53, getL l' 54, j55, j56, j57, j58, j59, undef] ∧ Hp sb s F0 s' [Ck.ol (Ow.sl OI 3) 24 A6473 c6473 x6473, Ck.ol OI 3 A8907 c8907 x9437, Ck.ov b8904 [.int .i64 u8902.1, .slice A8903 u8902.2.length c8903] 139] ∧ x9437.length = x8907.length) (((IntKind.i64.wrap ((IntKind.i64.wrap ((p1.length : Int) + 1)) - 1)) - (0)).toNat + 2) ⟨x8907, IntKind.i64.wrap ((IntKind.i64.wrap ((p1.length : Int) + 1)) - 1), H, rfl, hH.sel [0, 2, 1] (by decide), rfl⟩ ?_
      rintro kf l' s9571 ⟨x9437, x9438, H, hl, hH, hl9437⟩ K9571 hK9571
      generalize getL l' 11 = j11, getL l' 28 = j28, getL l' 29 = j29, getL l' 30 = j30, getL l' 31 = j31, getL l' 32 = j32, getL l' 33 = j33, getL l' 34 = j34, getL l' 35 = j35, getL l' 36 = j36, getL l' 37 = j37, getL l' 38 = j38, getL l' 39 = j39, getL l' 40 = j40, getL l' 41 = j41, getL l' 42 = j42, getL l' 43 = j43, getL l' 44 = j44, getL l' 45 = j45, getL l' 46 = j46, getL l' 47 = j47, getL l' 48 = j48, getL l' 49 = j49, getL l' 50 = j50, getL l' 51 = j51, getL l' 52 = j52, getL l' 53 = j53, getL l' 54 = j54 at hl
      subst hl
      cases kf with
      | zero => simp [spec_l14Counts.l2] at H
      | succ kf =>
       rw [spec_l14Counts.l2] at H
       refine HT_seq_k ?_
       intro K9572 hK9572
       refine HT_seq_k ?_
       intro K9573 hK9573
       refine HT_region ?_
       refine HL_cons rfl ?_
       refine o_move ?_
       try dsimp only [putL, setL, evL, getL]
       refine HL_cons rfl ?_
       refine o_bin rfl rfl rfl ?_
       try dsimp only [putL, setL, evL, getL]
       refine HL_nil ?_
       refine hK9573 _ _ ?_
       rcases Bool.eq_false_or_eq_true (decide (x9438 ≥ 0)) with hb9574 | hb9574
       ·replace H := iteT hb9574 H
        refine HT_true (congrArg Value.bool hb9574) ?_
        refine HT_skip ?_
        refine hK9572 _ _ ?_
        refine joinH H fun G9575 hG9575 H => ?_
        refine HT_joinK (fun l' s' => ∃ (x9638 : List (Int)), G9575 x9638 = some r ∧ l' = [.slice A0p p0.length c0p, .slice A1p p1.length c1p, undef, undef, .slice none 0 0, .int .i64 (IntKind.i64.wrap ((p1.length : Int) + 1)), .slice A6473 x6473.length c6473, .int .i64 x6474, .pointer (some ⟨b8904, 0, none⟩), .slice A8907 x8907.length c8907, .int .i64 x9438, getL l' 11, .slice A1p p1.length c1p, .int .i64 (p1.length : Int), .int .i64 (IntKind.i64.wrap ((p1.length : Int) + 1)), .slice A0p p0.length c0p, .int .i64 (p0.length : Int), .int .i64 x6474, .bool (decide (x6474 < (p0.length : Int))), .int .i64 x6474, .pointer (some ⟨b8902, o8902, none⟩), .agg #[.int .i64 u8902.1, .slice A8903 u8902.2.length c8903], .int .i64 (IntKind.i64.wrap ((p1.length : Int) + 1)), .int .i64 (IntKind.i64.wrap ((p1.length : Int) + 1)), .int .i64 (IntKind.i64.wrap ((IntKind.i64.wrap ((p1.length : Int) + 1)) * (IntKind.i64.wrap ((p1.length : Int) + 1)))), .slice A8907 x8907.length c8907, .int .i64 (IntKind.i64.wrap ((p1.length : Int) + 1)), .int .i64 (IntKind.i64.wrap ((IntKind.i64.wrap ((p1.length : Int) + 1)) - 1)), .int .i64 x9438, .bool (decide (x9438 ≥ 0)), j30, j31, getL l' 32, getL l' 33, getL l' 34, getL l' 35, getL l' 36, getL l' 37, getL l' 38, getL l' 39, getL l' 40, getL l' 41, getL l' 42, getL l' 43, getL l' 44, getL l' 45, getL l' 46, getL l' 47, getL l' 48, getL l' 49, getL l' 50, getL l' 51, getL l' 52, getL l' 53, getL l' 54, j55, j56, j57, j58, j59, undef] ∧ Hp sb s F0 s' [Ck.ol (Ow.sl OI 3) 24 A6473 c6473 x6473, Ck.ol OI 3 A8907 c8907 x9638, Ck.ov b8904 [.int .i64 u8902.1, .slice A8903 u8902.2.length c8903] 139] ∧ x9638.length = x8907.length) ?_ ?_
        ·intro K9575 hK9575
         refine HT_block ?_
         refine HT_seq_k ?_
         intro K9639 hK9639
         refine HT_region ?_
         refine HL_cons rfl ?_
         refine o_move ?_
         try dsimp only [putL, setL, evL, getL]
         refine HL_cons rfl ?_
         refine o_assign ?_
         try dsimp only [putL, setL, evL, getL]
         refine HL_nil ?_
         refine hK9639 _ _ ?_
         refine joinH H fun G9640 hG9640 H => ?_
         refine HT_toK (fun l' s' => ∃ (x9670 : List (Int)), G9640 x9670 = some r ∧ l' = [.slice A0p p0.length c0p, .slice A1p p1.length c1p, undef, undef, .slice none 0 0, .int .i64 (IntKind.i64.wrap ((p1.length : Int) + 1)), .slice A6473 x6473.length c6473, .int .i64 x6474, .pointer (some ⟨b8904, 0, none⟩), .slice A8907 x8907.length c8907, .int .i64 x9438, getL l' 11, .slice A1p p1.length c1p, .int .i64 (p1.length : Int), .int .i64 (IntKind.i64.wrap ((p1.length : Int) + 1)), .slice A0p p0.length c0p, .int .i64 (p0.length : Int), .int .i64 x6474, .bool (decide (x6474 < (p0.length : Int))), .int .i64 x6474, .pointer (some ⟨b8902, o8902, none⟩), .agg #[.int .i64 u8902.1, .slice A8903 u8902.2.length c8903], .int .i64 (IntKind.i64.wrap ((p1.length : Int) + 1)), .int .i64 (IntKind.i64.wrap ((p1.length : Int) + 1)), .int .i64 (IntKind.i64.wrap ((IntKind.i64.wrap ((p1.length : Int) + 1)) * (IntKind.i64.wrap ((p1.length : Int) + 1)))), .slice A8907 x8907.length c8907, .int .i64 (IntKind.i64.wrap ((p1.length : Int) + 1)), .int .i64 (IntKind.i64.wrap ((IntKind.i64.wrap ((p1.length : Int) + 1)) - 1)), .int .i64 x9438, .bool (decide (x9438 ≥ 0)), j30, j31, .int .i64 x9438, getL l' 33, getL l' 34, getL l' 35, getL l' 36, getL l' 37, getL l' 38, getL l' 39, getL l' 40, getL l' 41, getL l' 42, getL l' 43, getL l' 44, getL l' 45, getL l' 46, getL l' 47, getL l' 48, getL l' 49, getL l' 50, getL l' 51, getL l' 52, getL l' 53, getL l' 54, j55, j56, j57, j58, j59, undef] ∧ Hp sb s F0 s' [Ck.ol (Ow.sl OI 3) 24 A6473 c6473 x6473, Ck.ol OI 3 A8907 c8907 x9670, Ck.ov b8904 [.int .i64 u8902.1, .slice A8903 u8902.2.length c8903] 139] ∧ x9670.length = x8907.length) ?_ ?_
         ·intro K9640 hK9640
          refine HT_block ?_
          refine HT_loopK (fun kf l' s' => ∃ (x9679 : List (Int)) (x9680 : Int), (spec_l14Counts.l3 p0 p1 x6473 x6474 u8902 x9438 kf x9679 x9680).bind G9640 = some r ∧ l' = [.slice A0p p0.length c0p, .slice A1p p1.length c1p, undef, undef, .slice none 0 0, .int .i64 (IntKind.i64.wrap ((p1.length : Int) + 1)), .slice A6473 x6473.length c6473, .int .i64 x6474, .pointer (some ⟨b8904, 0, none⟩), .slice A8907 x8907.length c8907, .int .i64 x9438, .int .i64 x9680, .slice A1p p1.length c1p, .int .i64 (p1.length : Int), .int .i64 (IntKind.i64.wrap ((p1.length : Int) + 1)), .slice A0p p0.length c0p, .int .i64 (p0.length : Int), .int .i64 x6474, .bool (decide (x6474 < (p0.length : Int))), .int .i64 x6474, .pointer (some ⟨b8902, o8902, none⟩), .agg #[.int .i64 u8902.1, .slice A8903 u8902.2.length c8903], .int .i64 (IntKind.i64.wrap ((p1.length : Int) + 1)), .int .i64 (IntKind.i64.wrap ((p1.length : Int) + 1)), .int .i64 (IntKind.i64.wrap ((IntKind.i64.wrap ((p1.length : Int) + 1)) * (IntKind.i64.wrap ((p1.length : Int) + 1)))), .slice A8907 x8907.length c8907, .int .i64 (IntKind.i64.wrap ((p1.length : Int) + 1)), .int .i64 (IntKind.i64.wrap ((IntKind.i64.wrap ((p1.length : Int) + 1)) - 1)), .int .i64 x9438, .bool (decide (x9438 ≥ 0)), j30, j31, .int .i64 x9438, getL l' 33, getL l' 34, getL l' 35, getL l' 36, getL l' 37, getL l' 38, getL l' 39, getL l' 40, getL l' 41, getL l' 42, getL l' 43, getL l' 44, getL l' 45, getL l' 46, getL l' 47, getL l' 48, getL l' 49, getL l' 50, getL l' 51, getL l' 52, getL l' 53, getL l' 54, j55, j56, j57, j58, j59, undef] ∧ Hp sb s F0 s' [Ck.ol (Ow.sl OI 3) 24 A6473 c6473 x6473, Ck.ol OI 3 A8907 c8907 x9679, Ck.ov b8904 [.int .i64 u8902.1, .slice A8903 u8902.2.length c8903] 139] ∧ x9679.length = x8907.length) (((IntKind.i64.wrap ((p1.length : Int) + 1)) - (x9438)).toNat + 2) ⟨x9437, x9438, H, rfl, hH, hl9437⟩ ?_
          rintro kf l' s9691 ⟨x9679, x9680, H, hl, hH, hl9679⟩ K9691 hK9691
          generalize getL l' 33 = j33, getL l' 34 = j34, getL l' 35 = j35, getL l' 36 = j36, getL l' 37 = j37, getL l' 38 = j38, getL l' 39 = j39, getL l' 40 = j40, getL l' 41 = j41, getL l' 42 = j42, getL l' 43 = j43, getL l' 44 = j44, getL l' 45 = j45, getL l' 46 = j46, getL l' 47 = j47, getL l' 48 = j48, getL l' 49 = j49, getL l' 50 = j50, getL l' 51 = j51, getL l' 52 = j52, getL l' 53 = j53, getL l' 54 = j54 at hl
          subst hl
          cases kf with
          | zero => simp [spec_l14Counts.l3] at H
          | succ kf =>
           rw [spec_l14Counts.l3] at H
           refine HT_seq_k ?_
           intro K9692 hK9692
           refine HT_seq_k ?_
           intro K9693 hK9693
           refine HT_region ?_
           refine HL_cons rfl ?_
           refine o_move ?_
           try dsimp only [putL, setL, evL, getL]
           refine HL_cons rfl ?_
           refine o_move ?_
           try dsimp only [putL, setL, evL, getL]
           refine HL_cons rfl ?_
           refine o_bin rfl rfl rfl ?_
           try dsimp only [putL, setL, evL, getL]
           refine HL_nil ?_
           refine hK9693 _ _ ?_
           rcases Bool.eq_false_or_eq_true (decide (x9680 < (IntKind.i64.wrap ((p1.length : Int) + 1)))) with hb9694 | hb9694
           ·replace H := iteT hb9694 H
            refine HT_true (congrArg Value.bool hb9694) ?_
            refine HT_skip ?_
            refine hK9692 _ _ ?_
            refine HT_seq_k ?_
            intro K9695 hK9695
            refine HT_block ?_
            refine HT_region ?_
            refine HL_cons rfl ?_
            refine o_move ?_
            try dsimp only [putL, setL, evL, getL]
            refine HL_cons rfl ?_
            refine o_move ?_
            try dsimp only [putL, setL, evL, getL]
            refine HL_cons rfl ?_
            refine o_move ?_
            try dsimp only [putL, setL, evL, getL]
            refine HL_cons rfl ?_
            refine o_bin rfl rfl rfl ?_
            try dsimp only [putL, setL, evL, getL]
            refine HL_cons rfl ?_
            refine o_move ?_
            try dsimp only [putL, setL, evL, getL]
            refine HL_cons rfl ?_
            refine o_bin rfl rfl rfl ?_
            try dsimp only [putL, setL, evL, getL]
            refine HL_cons rfl ?_
            refine o_move ?_
            try dsimp only [putL, setL, evL, getL]
            refine HL_cons rfl ?_
            refine o_move ?_
            try dsimp only [putL, setL, evL, getL]
            refine HL_cons rfl ?_
            refine o_move ?_
            try dsimp only [putL, setL, evL, getL]
            refine HL_cons rfl ?_
            refine o_move ?_
            try dsimp only [putL, setL, evL, getL]
            refine HL_cons rfl ?_
            refine o_move ?_
            try dsimp only [putL, setL, evL, getL]
            refine HL_cons rfl ?_
            refine o_loads' [.int .i64 u8902.1, .slice A8903 u8902.2.length c8903] rfl Try.underlying139 rfl tI139 rfl (hH.partv 2 rfl (0) [.int .i64 u8902.1, .slice A8903 u8902.2.length c8903] rfl) ?_
            try dsimp only [putL, setL, evL, getL]
            refine HL_cons rfl ?_
            refine o_move ?_
            try dsimp only [putL, setL, evL, getL]
            refine HL_cons rfl ?_
            refine o_move ?_
            try dsimp only [putL, setL, evL, getL]
            replace H := headE H
            obtain ⟨u9696, hu9696, H⟩ := H
            refine HL_cons rfl ?_
            refine o_call (args := #[.slice A0p p0.length c0p, .slice A6473 x6473.length c6473, .slice A8907 x9679.length c8907, .slice A1p p1.length c1p, .int .i64 x6474, .agg #[.int .i64 u8902.1, .slice A8903 u8902.2.length c8903], .int .i64 x9438, .int .i64 x9680]) Try.func199 rfl rfl (by show ([.slice A0p p0.length c0p, .slice A6473 x6473.length c6473, .slice A8907 x8907.length c8907, .slice A1p p1.length c1p, .int .i64 x6474, .agg #[.int .i64 u8902.1, .slice A8903 u8902.2.length c8903], .int .i64 x9438, .int .i64 x9680] : List Value) = [.slice A0p p0.length c0p, .slice A6473 x6473.length c6473, .slice A8907 x9679.length c8907, .slice A1p p1.length c1p, .int .i64 x6474, .agg #[.int .i64 u8902.1, .slice A8903 u8902.2.length c8903], .int .i64 x9438, .int .i64 x9680]; rw [hl9679]; first | done | rfl) (spec_l14Cell.ok s9691 s9691 no A0p c0p p0 A6473 c6473 x6473 A8907 c8907 x9679 A1p c1p p1 x6474 u8902.1 A8903 c8903 u8902.2 x9438 x9680 (HRp0.mono hH.bs.mono) (hH.rd 0 rfl) (hH.rd 1 rfl) (HRp1.mono hH.bs.mono) (D8903.mono hH.bs.mono) (Hp.own (Bs.refl s9691)) _ hu9696) ?_
            rintro _ s9696 ⟨rfl, hD⟩
            replace hH := hH.back0T hD
            clear hD
            dsimp only [addC, setC, rmC, selC, getC] at hH
            try dsimp only [putL, setL, evL, getL]
            replace H := headE H
            obtain ⟨u9697, hu9697, H⟩ := H
            refine HL_cons rfl ?_
            refine o_call (args := #[.int .i64 1000000, .int .i64 u9696]) Try.func182 rfl rfl rfl (spec_l1Least.ok sb s9696 no 1000000 u9696 (Hp.own hH.bs) _ hu9697) ?_
            rintro _ s9697 ⟨rfl, hD⟩
            replace hH := hH.back0 hD (Up.refl _ _ _)
            clear hD
            dsimp only [addC, setC, rmC, selC, getC] at hH
            try dsimp only [putL, setL, evL, getL]
            replace H := headE H
            obtain ⟨u9698, hu9698, H⟩ := H
            obtain ⟨b9698, o9698, cs9698, hA9698, hr9698, hh9698, hel9698⟩ := hH.elo 1 rfl hu9698
            obtain rfl := hr9698
            refine HL_cons rfl ?_
            refine hel9698 s9697 (sliceLen hl9679) rfl Try.underlying24 tI3 ?_
            try dsimp only [putL, setL, evL, getL]
            replace H := headE H
            obtain ⟨x9699, hx9699, H⟩ := H
            refine HL_cons rfl ?_
            refine o_setF (vs := [.int .i64 u9697]) (u := u9697) hH 1 rfl rfl rfl rfl rfl tI3 hA9698 hx9699 (Ent.own (Ent.flat rfl)) ?_
            intro s9699 hH'
            have hl9699 := (st?_len hx9699).trans hl9679
            replace hH : Hp sb s F0 s9699 [Ck.ol (Ow.sl OI 3) 24 A6473 c6473 x6473, Ck.ol OI 3 A8907 c8907 x9699, Ck.ov b8904 [.int .i64 u8902.1, .slice A8903 u8902.2.length c8903] 139] := hH'
            clear hH'
            try dsimp only [putL, setL, evL, getL]
            refine HL_nil ?_
            refine hK9695 _ _ ?_
            refine HT_region ?_
            refine HL_cons rfl ?_
            refine o_move ?_
            try dsimp only [putL, setL, evL, getL]
            refine HL_cons rfl ?_
            refine o_bin rfl rfl rfl ?_
            try dsimp only [putL, setL, evL, getL]
            refine HL_cons rfl ?_
            refine o_assign ?_
            try dsimp only [putL, setL, evL, getL]
            refine HL_nil ?_
            exact hK9691 _ _ ⟨kf, Nat.lt_succ_self kf, x9699, IntKind.i64.wrap (x9680 + 1), H, rfl, hH, hl9699⟩
           ·replace H := iteF hb9694 H
            refine HT_false (congrArg Value.bool hb9694) ?_
            refine HT_exit ?_
            exact hK9640 _ _ ⟨x9679, H, rfl, hH, hl9679⟩
         ·rintro l' s9700 ⟨x9670, H, hl, hH, hl9670⟩
          generalize getL l' 11 = j11, getL l' 33 = j33, getL l' 34 = j34, getL l' 35 = j35, getL l' 36 = j36, getL l' 37 = j37, getL l' 38 = j38, getL l' 39 = j39, getL l' 40 = j40, getL l' 41 = j41, getL l' 42 = j42, getL l' 43 = j43, getL l' 44 = j44, getL l' 45 = j45, getL l' 46 = j46, getL l' 47 = j47, getL l' 48 = j48, getL l' 49 = j49, getL l' 50 = j50, getL l' 51 = j51, getL l' 52 = j52, getL l' 53 = j53, getL l' 54 = j54 at hl
          subst hl
          replace H := hG9640 _ H
          try dsimp only at H
          exact hK9575 _ _ ⟨x9670, H, rfl, hH, hl9670⟩
        ·rintro l' s9701 ⟨x9638, H, hl, hH, hl9638⟩
         generalize getL l' 11 = j11, getL l' 32 = j32, getL l' 33 = j33, getL l' 34 = j34, getL l' 35 = j35, getL l' 36 = j36, getL l' 37 = j37, getL l' 38 = j38, getL l' 39 = j39, getL l' 40 = j40, getL l' 41 = j41, getL l' 42 = j42, getL l' 43 = j43, getL l' 44 = j44, getL l' 45 = j45, getL l' 46 = j46, getL l' 47 = j47, getL l' 48 = j48, getL l' 49 = j49, getL l' 50 = j50, getL l' 51 = j51, getL l' 52 = j52, getL l' 53 = j53, getL l' 54 = j54 at hl
         subst hl
         replace H := hG9575 _ H
         try dsimp only at H
         refine HT_region ?_
         refine HL_cons rfl ?_
         refine o_move ?_
         try dsimp only [putL, setL, evL, getL]
         refine HL_cons rfl ?_
         refine o_bin rfl rfl rfl ?_
         try dsimp only [putL, setL, evL, getL]
         refine HL_cons rfl ?_
         refine o_assign ?_
         try dsimp only [putL, setL, evL, getL]
         refine HL_nil ?_
         exact hK9571 _ _ ⟨kf, Nat.lt_succ_self kf, x9638, IntKind.i64.wrap (x9438 - 1), H, rfl, hH, hl9638⟩
       ·replace H := iteF hb9574 H
        refine HT_false (congrArg Value.bool hb9574) ?_
        refine HT_exit ?_
        exact hK8910 _ _ ⟨x9437, H, rfl, hH.sel [0, 1] (by decide), hl9437⟩
     ·rintro l' s9702 ⟨x9306, H, hl, hH, hl9306⟩
      generalize getL l' 10 = j10, getL l' 11 = j11, getL l' 28 = j28, getL l' 29 = j29, getL l' 30 = j30, getL l' 31 = j31, getL l' 32 = j32, getL l' 33 = j33, getL l' 34 = j34, getL l' 35 = j35, getL l' 36 = j36, getL l' 37 = j37, getL l' 38 = j38, getL l' 39 = j39, getL l' 40 = j40, getL l' 41 = j41, getL l' 42 = j42, getL l' 43 = j43, getL l' 44 = j44, getL l' 45 = j45, getL l' 46 = j46, getL l' 47 = j47, getL l' 48 = j48, getL l' 49 = j49, getL l' 50 = j50, getL l' 51 = j51, getL l' 52 = j52, getL l' 53 = j53, getL l' 54 = j54 at hl
      subst hl
      replace H := hG8910 _ H
      try dsimp only at H
      refine hK8908 _ _ ?_
      refine HT_region ?_
      refine HL_cons rfl ?_
      refine o_move ?_
      try dsimp only [putL, setL, evL, getL]
      refine HL_cons rfl ?_
      refine o_move ?_
      try dsimp only [putL, setL, evL, getL]
      replace hH := hH.conv [1] (by decide) (d := Ck.el (Ow.sl OI 3) [.slice A8907 x8907.length c8907] x9306) (Ent.slL hl9306)
      dsimp only [addC, setC, rmC, selC, getC] at hH
      refine HL_cons rfl ?_
      refine o_litD (K := (Kd.sl KI)) (O := (Ow.sl OI 3)) (ca := #[.slice A8907 x8907.length c8907]) [[.slice A8907 x8907.length c8907]] [x9306] hH [2] (by decide) rfl Try.underlying105 tI24 rfl (by decide) rfl rfl rfl rfl (by kernel_rfl) rfl ?_
      intro A9703 s9703 hH' hG
      replace hH : Hp sb s F0 s9703 [Ck.ol (Ow.sl OI 3) 24 A6473 c6473 x6473, Ck.emp, Ck.emp, Ck.ol (Ow.sl OI 3) 24 A9703 1 [x9306]] := hH'
      clear hH' hG
      try dsimp only [putL, setL, evL, getL]
      replace H := headE H
      obtain ⟨x9704, hx9704, H⟩ := H
      refine HL_cons rfl ?_
      refine o_appD (K := (Kd.sl KI)) (n := 5864062014805) (A := A6473) (c := c6473) (xs := x6473) (ys := [x9306]) (B := A9703) (c2 := 1) hH 0 3 (by decide) rfl rfl rfl rfl rfl Try.underlying105 tI24 rfl (by decide) (by decide) (by decide) hx9704 ?_
      intro A9704 c9704 s9704 hH'
      replace hH : Hp sb s F0 s9704 [Ck.ol (Ow.sl OI 3) 24 A9704 c9704 x9704, Ck.emp, Ck.emp, Ck.emp] := hH'
      clear hH'
      try dsimp only [putL, setL, evL, getL]
      refine HL_cons rfl ?_
      refine o_assign ?_
      try dsimp only [putL, setL, evL, getL]
      refine HL_nil ?_
      exact hK8095 _ _ ⟨x9704, A9704, c9704, H, rfl, hH.sel [0] (by decide)⟩
    ·rintro l' s9705 ⟨x8900, A8900, c8900, H, hl, hH⟩
     generalize getL l' 7 = j7, getL l' 8 = j8, getL l' 9 = j9, getL l' 10 = j10, getL l' 11 = j11, getL l' 19 = j19, getL l' 20 = j20, getL l' 21 = j21, getL l' 22 = j22, getL l' 23 = j23, getL l' 24 = j24, getL l' 25 = j25, getL l' 26 = j26, getL l' 27 = j27, getL l' 28 = j28, getL l' 29 = j29, getL l' 30 = j30, getL l' 31 = j31, getL l' 32 = j32, getL l' 33 = j33, getL l' 34 = j34, getL l' 35 = j35, getL l' 36 = j36, getL l' 37 = j37, getL l' 38 = j38, getL l' 39 = j39, getL l' 40 = j40, getL l' 41 = j41, getL l' 42 = j42, getL l' 43 = j43, getL l' 44 = j44, getL l' 45 = j45, getL l' 46 = j46, getL l' 47 = j47, getL l' 48 = j48, getL l' 49 = j49, getL l' 50 = j50, getL l' 51 = j51, getL l' 52 = j52, getL l' 53 = j53, getL l' 54 = j54, getL l' 55 = j55, getL l' 56 = j56, getL l' 57 = j57, getL l' 58 = j58 at hl
     subst hl
     replace H := hG8095 _ H
     try dsimp only at H
     refine HT_region ?_
     refine HL_cons rfl ?_
     refine o_bin rfl rfl rfl ?_
     try dsimp only [putL, setL, evL, getL]
     refine HL_cons rfl ?_
     refine o_move ?_
     try dsimp only [putL, setL, evL, getL]
     refine HL_nil ?_
     exact hK8091 _ _ ⟨kf, Nat.lt_succ_self kf, x8900, A8900, c8900, IntKind.i64.wrap (x6474 + 1), H, rfl, hH⟩
   ·replace H := iteF hb8094 H
    refine HT_false (congrArg Value.bool hb8094) ?_
    refine HT_exit ?_
    exact hK6 _ _ ⟨x6473, A6473, c6473, H, rfl, hH⟩
 ·rintro l' s9706 ⟨x4856, A4856, c4856, H, hl, hH⟩
  generalize getL l' 7 = j7, getL l' 8 = j8, getL l' 9 = j9, getL l' 10 = j10, getL l' 11 = j11, getL l' 17 = j17, getL l' 18 = j18, getL l' 19 = j19, getL l' 20 = j20, getL l' 21 = j21, getL l' 22 = j22, getL l' 23 = j23, getL l' 24 = j24, getL l' 25 = j25, getL l' 26 = j26, getL l' 27 = j27, getL l' 28 = j28, getL l' 29 = j29, getL l' 30 = j30, getL l' 31 = j31, getL l' 32 = j32, getL l' 33 = j33, getL l' 34 = j34, getL l' 35 = j35, getL l' 36 = j36, getL l' 37 = j37, getL l' 38 = j38, getL l' 39 = j39, getL l' 40 = j40, getL l' 41 = j41, getL l' 42 = j42, getL l' 43 = j43, getL l' 44 = j44, getL l' 45 = j45, getL l' 46 = j46, getL l' 47 = j47, getL l' 48 = j48, getL l' 49 = j49, getL l' 50 = j50, getL l' 51 = j51, getL l' 52 = j52, getL l' 53 = j53, getL l' 54 = j54, getL l' 55 = j55, getL l' 56 = j56, getL l' 57 = j57, getL l' 58 = j58, getL l' 59 = j59 at hl
  subst hl
  replace H := hG6 _ H
  try dsimp only at H
  refine hK4 _ _ ?_
  refine HT_seq_k ?_
  intro K9707 hK9707
  refine HT_region ?_
  refine HL_cons rfl ?_
  refine o_move ?_
  try dsimp only [putL, setL, evL, getL]
  refine HL_cons rfl ?_
  refine o_assign ?_
  try dsimp only [putL, setL, evL, getL]
  refine HL_nil ?_
  refine hK9707 _ _ ?_
  refine HT_ret ?_
  exact hQr _ _ [.slice A4856 x4856.length c4856] ⟨rfl, trivial⟩ (retH (fun r => spec_l14Counts.post sb s F0 r _ _) (show some _ = some r from H) ⟨A4856, c4856, rfl, hH⟩)
def spec_CountParses.f (p0 : List ((Int) × (List (Int)))) (p1 : List (Int)) : Option (Int × Bool) := (spec_l14Asked.f p0 p1).bind fun u4 => if (!u4) = true then (some (0, false)) else ((spec_l14Counts.f p0 p1).bind fun u8 => (rd? u8 (IntKind.i64.wrap ((p0.length : Int) - 1))).bind fun u10 => (rd? u10 (p1.length : Int)).bind fun u12 => some (u12, true))
def spec_CountParses.post (sb s : St) (F0 : Fp) (r : Int × Bool) : Value → St → Prop := fun v s' => v = .tuple #[.int .i64 r.1, .bool r.2] ∧ Hp sb s F0 s' []
set_option maxRecDepth 100000 in
set_option maxHeartbeats 4000000 in
theorem spec_CountParses.ok (sb s : St) (F0 : Fp) (A0p : Option Addr) (c0p : Nat) (p0 : List ((Int) × (List (Int)))) (A1p : Option Addr) (c1p : Nat) (p1 : List (Int)) (HRp0 : Rd KS139 sb A0p c0p p0) (HRp1 : Rd KI sb A1p c1p p1) (hH : Hp sb s F0 s []) (r : Int × Bool) (H : spec_CountParses.f p0 p1 = some r) : GCall Try.prog 60 #[.slice A0p p0.length c0p, .slice A1p p1.length c1p] s (spec_CountParses.post sb s F0 r) := by
 refine GCall_ofk [.tmp 4, .tmp 5] [.slice A0p p0.length c0p, .slice A1p p1.length c1p, undef, undef, undef, undef, undef, undef, undef, undef, undef, undef, undef, undef, undef, undef, undef, undef, undef, undef, undef, undef] Try.func60 rfl rfl rfl ?_
 intro w Q hQr hQn hQp
 replace H := topE H
 unfold spec_CountParses.f at H
 refine HT_seq_k ?_
 intro K1 hK1
 refine HT_region ?_
 refine HL_cons rfl ?_
 refine o_assign ?_
 try dsimp only [putL, setL, evL, getL]
 refine HL_cons rfl ?_
 refine o_assign ?_
 try dsimp only [putL, setL, evL, getL]
 refine HL_nil ?_
 refine hK1 _ _ ?_
 refine HT_seq_k ?_
 intro K2 hK2
 refine HT_seq_k ?_
 intro K3 hK3
 refine HT_region ?_
 refine HL_cons rfl ?_
 refine o_move ?_
 try dsimp only [putL, setL, evL, getL]
 refine HL_cons rfl ?_
 refine o_move ?_
 try dsimp only [putL, setL, evL, getL]
 replace H := headE H
 obtain ⟨u4, hu4, H⟩ := H
 refine HL_cons rfl ?_
 refine o_call (args := #[.slice A0p p0.length c0p, .slice A1p p1.length c1p]) Try.func150 rfl rfl rfl (spec_l14Asked.ok sb s no A0p c0p p0 A1p c1p p1 HRp0 HRp1 (Hp.own hH.bs) _ hu4) ?_
 rintro _ s4 ⟨rfl, hD⟩
 replace hH := hH.back0 hD (Up.refl _ _ _)
 clear hD
 dsimp only [addC, setC, rmC, selC, getC] at hH
 try dsimp only [putL, setL, evL, getL]
 refine HL_cons rfl ?_
 refine o_not rfl ?_
 try dsimp only [putL, setL, evL, getL]
 refine HL_nil ?_
 refine hK3 _ _ ?_
 rcases Bool.eq_false_or_eq_true (!u4) with hb5 | hb5
 ·replace H := iteT hb5 H
  refine HT_true (congrArg Value.bool hb5) ?_
  refine HT_seq_k ?_
  intro K6 hK6
  refine HT_region ?_
  refine HL_cons rfl ?_
  refine o_assign ?_
  try dsimp only [putL, setL, evL, getL]
  refine HL_cons rfl ?_
  refine o_assign ?_
  try dsimp only [putL, setL, evL, getL]
  refine HL_nil ?_
  refine hK6 _ _ ?_
  refine HT_ret ?_
  exact hQr _ _ [.int .i64 0, .bool false] ⟨rfl, rfl, trivial⟩ (retH (fun r => spec_CountParses.post sb s F0 r _ _) (show some _ = some r from H) ⟨rfl, hH⟩)
 ·replace H := iteF hb5 H
  refine HT_false (congrArg Value.bool hb5) ?_
  refine HT_skip ?_
  refine hK2 _ _ ?_
  refine HT_seq_k ?_
  intro K7 hK7
  refine HT_region ?_
  refine HL_cons rfl ?_
  refine o_move ?_
  try dsimp only [putL, setL, evL, getL]
  refine HL_cons rfl ?_
  refine o_move ?_
  try dsimp only [putL, setL, evL, getL]
  replace H := headE H
  obtain ⟨u8, hu8, H⟩ := H
  refine HL_cons rfl ?_
  refine o_call (args := #[.slice A0p p0.length c0p, .slice A1p p1.length c1p]) Try.func151 rfl rfl rfl (spec_l14Counts.ok sb s4 no A0p c0p p0 A1p c1p p1 HRp0 HRp1 (Hp.own hH.bs) _ hu8) ?_
  rintro _ s8 ⟨A9, c9, rfl, hD⟩
  replace hH := hH.back0 hD (Up.refl _ _ _)
  clear hD
  dsimp only [addC, setC, rmC, selC, getC] at hH
  try dsimp only [putL, setL, evL, getL]
  refine HL_cons rfl ?_
  refine o_move ?_
  try dsimp only [putL, setL, evL, getL]
  refine HL_cons rfl ?_
  refine o_len rfl Try.underlying57 ?_
  try dsimp only [putL, setL, evL, getL]
  refine HL_cons rfl ?_
  refine o_bin rfl rfl rfl ?_
  try dsimp only [putL, setL, evL, getL]
  replace H := headE H
  obtain ⟨u10, hu10, H⟩ := H
  obtain ⟨b10, o10, cs10, hA10, hr10, hh10, hel10⟩ := hH.elo 0 rfl hu10
  obtain ⟨A11, c11, rfl, D11⟩ := hr10
  refine HL_cons rfl ?_
  refine hel10 s8 rfl rfl Try.underlying105 tI24 ?_
  try dsimp only [putL, setL, evL, getL]
  refine HL_cons rfl ?_
  refine o_load' rfl Try.underlying24 rfl (hh10 0 _ rfl) ?_
  try dsimp only [putL, setL, evL, getL]
  refine HL_cons rfl ?_
  refine o_move ?_
  try dsimp only [putL, setL, evL, getL]
  refine HL_cons rfl ?_
  refine o_len rfl Try.underlying24 ?_
  try dsimp only [putL, setL, evL, getL]
  replace H := headE H
  obtain ⟨u12, hu12, H⟩ := H
  obtain ⟨b12, o12, cs12, hr12, hh12, hel12⟩ := Rd.el D11 hu12
  obtain rfl := hr12
  refine HL_cons rfl ?_
  refine hel12 s8 rfl rfl Try.underlying24 tI3 ?_
  try dsimp only [putL, setL, evL, getL]
  refine HL_cons rfl ?_
  refine o_load' rfl Try.underlying3 rfl (hh12 0 _ rfl) ?_
  try dsimp only [putL, setL, evL, getL]
  refine HL_cons rfl ?_
  refine o_assign ?_
  try dsimp only [putL, setL, evL, getL]
  refine HL_cons rfl ?_
  refine o_assign ?_
  try dsimp only [putL, setL, evL, getL]
  refine HL_nil ?_
  refine hK7 _ _ ?_
  refine HT_ret ?_
  exact hQr _ _ [.int .i64 u12, .bool true] ⟨rfl, rfl, trivial⟩ (retH (fun r => spec_CountParses.post sb s F0 r _ _) (show some _ = some r from H) ⟨rfl, hH.sel [] (by decide)⟩)
def impl_inRange.f (p0 : Int) (p1 : Int) (p2 : Int) : Option Bool := if (decide (p1 ≤ p0)) = true then (some (decide (p0 ≤ p2))) else (some false)
def impl_inRange.post (sb s : St) (F0 : Fp) (r : Bool) : Value → St → Prop := fun v s' => v = .bool r ∧ Hp sb s F0 s' []
set_option maxRecDepth 100000 in
set_option maxHeartbeats 4000000 in
theorem impl_inRange.ok (sb s : St) (F0 : Fp) (p0 : Int) (p1 : Int) (p2 : Int) (hH : Hp sb s F0 s []) (r : Bool) (H : impl_inRange.f p0 p1 p2 = some r) : GCall Try.prog 105 #[.int .i64 p0, .int .i64 p1, .int .i64 p2] s (impl_inRange.post sb s F0 r) := by
 refine GCall_ofk [.tmp 6] [.int .i64 p0, .int .i64 p1, .int .i64 p2, undef, undef, undef, undef, undef, undef, undef, undef, undef, undef, undef, undef] Try.func105 rfl rfl rfl ?_
 intro w Q hQr hQn hQp
 replace H := topE H
 unfold impl_inRange.f at H
 refine HT_seq_k ?_
 intro K1 hK1
 refine HT_region ?_
 refine HL_cons rfl ?_
 refine o_assign ?_
 try dsimp only [putL, setL, evL, getL]
 refine HL_nil ?_
 refine hK1 _ _ ?_
 refine HT_seq_k ?_
 intro K2 hK2
 refine HT_region ?_
 refine HL_cons rfl ?_
 refine o_move ?_
 try dsimp only [putL, setL, evL, getL]
 refine HL_cons rfl ?_
 refine o_move ?_
 try dsimp only [putL, setL, evL, getL]
 refine HL_cons rfl ?_
 refine o_bin rfl rfl rfl ?_
 try dsimp only [putL, setL, evL, getL]
 refine HL_cons rfl ?_
 refine o_move ?_
 try dsimp only [putL, setL, evL, getL]
 rcases Bool.eq_false_or_eq_true (decide (p1 ≤ p0)) with hb3 | hb3
 ·replace H := iteT hb3 H
  refine HL_want ?_ ?_
  ·exact wantT (j := 3) (b := true) (t := 10) (c := decide (p1 ≤ p0)) rfl rfl rfl rfl hb3
  refine o_move ?_
  try dsimp only [putL, setL, evL, getL]
  refine HL_want ?_ ?_
  ·exact wantT (j := 3) (b := true) (t := 10) (c := decide (p1 ≤ p0)) rfl rfl rfl rfl hb3
  refine o_move ?_
  try dsimp only [putL, setL, evL, getL]
  refine HL_want ?_ ?_
  ·exact wantT (j := 3) (b := true) (t := 10) (c := decide (p1 ≤ p0)) rfl rfl rfl rfl hb3
  refine o_bin rfl rfl rfl ?_
  try dsimp only [putL, setL, evL, getL]
  refine HL_cons rfl ?_
  refine o_pickT rfl hb3 ?_
  try dsimp only [putL, setL, evL, getL]
  refine HL_cons rfl ?_
  refine o_assign ?_
  try dsimp only [putL, setL, evL, getL]
  refine HL_nil ?_
  refine hK2 _ _ ?_
  refine HT_ret ?_
  exact hQr _ _ [.bool (decide (p0 ≤ p2))] ⟨rfl, trivial⟩ (retH (fun r => impl_inRange.post sb s F0 r _ _) (show some _ = some r from H) ⟨rfl, hH⟩)
 ·replace H := iteF hb3 H
  refine HL_skip ?_ ?_
  ·exact wantF (j := 3) (b := true) (t := 10) (c := decide (p1 ≤ p0)) rfl rfl rfl rfl hb3
  try dsimp only [putL, setL, evL, getL]
  refine HL_skip ?_ ?_
  ·exact wantF (j := 3) (b := true) (t := 10) (c := decide (p1 ≤ p0)) rfl rfl rfl rfl hb3
  try dsimp only [putL, setL, evL, getL]
  refine HL_skip ?_ ?_
  ·exact wantF (j := 3) (b := true) (t := 10) (c := decide (p1 ≤ p0)) rfl rfl rfl rfl hb3
  try dsimp only [putL, setL, evL, getL]
  refine HL_cons rfl ?_
  refine o_pickF rfl hb3 ?_
  try dsimp only [putL, setL, evL, getL]
  refine HL_cons rfl ?_
  refine o_assign ?_
  try dsimp only [putL, setL, evL, getL]
  refine HL_nil ?_
  refine hK2 _ _ ?_
  refine HT_ret ?_
  exact hQr _ _ [.bool false] ⟨rfl, trivial⟩ (retH (fun r => impl_inRange.post sb s F0 r _ _) (show some _ = some r from H) ⟨rfl, hH⟩)
def impl_GoodSet.l1 (p0 : List (Int)) : Nat → Int → Option (Lo Unit Bool)
 | 0, _ => none
 | kf + 1, x300 => if (decide (x300 < (p0.length : Int))) = true then ((rd? p0 x300).bind fun u416 => ((if (decide (x300 > 0)) = true then ((rem? x300 2).bind fun u437 => some (u437 == 0)) else (some false)).bind fun (o : Bool) => match o with | x435 => (if x435 = true then ((rd? p0 (IntKind.i64.wrap (x300 - 1))).bind fun u440 => some (IntKind.i64.wrap (u440 + 2))) else (if (decide (x300 > 0)) = true then ((rd? p0 (IntKind.i64.wrap (x300 - 1))).bind fun u443 => some u443) else (some 0)))).bind fun (o : Int) => match o with | x431 => ((impl_inRange.f u416 x431 1114111).bind fun u446 => if (!u446) = true then ((some false).bind fun z => some (Lo.ret z)) else (impl_GoodSet.l1 p0 kf (IntKind.i64.wrap (x300 + 1))))) else (some (Lo.go ()))
def impl_GoodSet.f (p0 : List (Int)) : Option Bool := (impl_GoodSet.l1 p0 ((((p0.length : Int)) - (0)).toNat + 2) 0).bind fun (o : Lo Unit Bool) => match o with | .go () => ((rem? (p0.length : Int) 2).bind fun u451 => if (u451 == 0) = true then (some (decide ((p0.length : Int) ≤ 24))) else (some false)) | .ret z => some z
def impl_GoodSet.post (sb s : St) (F0 : Fp) (r : Bool) : Value → St → Prop := fun v s' => v = .bool r ∧ Hp sb s F0 s' []
set_option maxRecDepth 100000 in
set_option maxHeartbeats 4000000 in
theorem impl_GoodSet.ok (sb s : St) (F0 : Fp) (A0p : Option Addr) (c0p : Nat) (p0 : List (Int)) (HRp0 : Rd KI sb A0p c0p p0) (hH : Hp sb s F0 s []) (r : Bool) (H : impl_GoodSet.f p0 = some r) : GCall Try.prog 192 #[.slice A0p p0.length c0p] s (impl_GoodSet.post sb s F0 r) := by
 refine GCall_ofk [.tmp 2] [.slice A0p p0.length c0p, undef, undef, undef, undef, undef, undef, undef, undef, undef, undef, undef, undef, undef, undef, undef, undef, undef, undef, undef, undef, undef, undef, undef, undef, undef, undef, undef, undef, undef, undef, undef, undef, undef, undef, undef, undef, undef, undef, undef, undef, undef, undef, undef, undef, undef, undef, undef, undef] Try.func192 rfl rfl rfl ?_
 intro w Q hQr hQn hQp
 replace H := topE H
 unfold impl_GoodSet.f at H
 refine HT_seq_k ?_
 intro K1 hK1
 refine HT_region ?_
 refine HL_cons rfl ?_
 refine o_assign ?_
 try dsimp only [putL, setL, evL, getL]
 refine HL_nil ?_
 refine hK1 _ _ ?_
 refine HT_seq_k ?_
 intro K2 hK2
 refine HT_seq_k ?_
 intro K3 hK3
 refine HT_region ?_
 refine HL_cons rfl ?_
 refine o_move ?_
 try dsimp only [putL, setL, evL, getL]
 refine HL_cons rfl ?_
 refine o_len rfl Try.underlying24 ?_
 try dsimp only [putL, setL, evL, getL]
 refine HL_cons rfl ?_
 refine o_move ?_
 try dsimp only [putL, setL, evL, getL]
 refine HL_nil ?_
 refine hK3 _ _ ?_
 refine joinH H fun G4 hG4 H => ?_
 refine HT_toK (fun l' s' => G4 (.go ()) = some r ∧ l' = [.slice A0p p0.length c0p, undef, getL l' 2, getL l' 3, getL l' 4, getL l' 5, .slice A0p p0.length c0p, .int .i64 (p0.length : Int), getL l' 8, getL l' 9, getL l' 10, getL l' 11, getL l' 12, getL l' 13, getL l' 14, getL l' 15, getL l' 16, getL l' 17, getL l' 18, getL l' 19, getL l' 20, getL l' 21, getL l' 22, getL l' 23, getL l' 24, getL l' 25, getL l' 26, getL l' 27, getL l' 28, getL l' 29, getL l' 30, getL l' 31, getL l' 32, getL l' 33, getL l' 34, getL l' 35, getL l' 36, getL l' 37, getL l' 38, getL l' 39, undef, undef, undef, undef, undef, undef, undef, undef, undef] ∧ Hp sb s F0 s' []) ?_ ?_
 ·intro K4 hK4
  refine HT_block ?_
  refine HT_loopK (fun kf l' s' => ∃ (x300 : Int), (impl_GoodSet.l1 p0 kf x300).bind G4 = some r ∧ l' = [.slice A0p p0.length c0p, undef, getL l' 2, getL l' 3, getL l' 4, getL l' 5, .slice A0p p0.length c0p, .int .i64 (p0.length : Int), .int .i64 x300, getL l' 9, getL l' 10, getL l' 11, getL l' 12, getL l' 13, getL l' 14, getL l' 15, getL l' 16, getL l' 17, getL l' 18, getL l' 19, getL l' 20, getL l' 21, getL l' 22, getL l' 23, getL l' 24, getL l' 25, getL l' 26, getL l' 27, getL l' 28, getL l' 29, getL l' 30, getL l' 31, getL l' 32, getL l' 33, getL l' 34, getL l' 35, getL l' 36, getL l' 37, getL l' 38, getL l' 39, undef, undef, undef, undef, undef, undef, undef, undef, undef] ∧ Hp sb s F0 s' []) ((((p0.length : Int)) - (0)).toNat + 2) ⟨0, H, rfl, hH⟩ ?_
  rintro kf l' s375 ⟨x300, H, hl, hH⟩ K375 hK375
  generalize getL l' 2 = j2, getL l' 3 = j3, getL l' 4 = j4, getL l' 5 = j5, getL l' 9 = j9, getL l' 10 = j10, getL l' 11 = j11, getL l' 12 = j12, getL l' 13 = j13, getL l' 14 = j14, getL l' 15 = j15, getL l' 16 = j16, getL l' 17 = j17, getL l' 18 = j18, getL l' 19 = j19, getL l' 20 = j20, getL l' 21 = j21, getL l' 22 = j22, getL l' 23 = j23, getL l' 24 = j24, getL l' 25 = j25, getL l' 26 = j26, getL l' 27 = j27, getL l' 28 = j28, getL l' 29 = j29, getL l' 30 = j30, getL l' 31 = j31, getL l' 32 = j32, getL l' 33 = j33, getL l' 34 = j34, getL l' 35 = j35, getL l' 36 = j36, getL l' 37 = j37, getL l' 38 = j38, getL l' 39 = j39 at hl
  subst hl
  cases kf with
  | zero => simp [impl_GoodSet.l1] at H
  | succ kf =>
   rw [impl_GoodSet.l1] at H
   refine HT_seq_k ?_
   intro K376 hK376
   refine HT_region ?_
   refine HL_cons rfl ?_
   refine o_bin rfl rfl rfl ?_
   try dsimp only [putL, setL, evL, getL]
   refine HL_nil ?_
   refine hK376 _ _ ?_
   refine HT_seq_k ?_
   intro K377 hK377
   rcases Bool.eq_false_or_eq_true (decide (x300 < (p0.length : Int))) with hb378 | hb378
   ·replace H := iteT hb378 H
    refine HT_true (congrArg Value.bool hb378) ?_
    refine HT_skip ?_
    refine hK377 _ _ ?_
    refine HT_seq_k ?_
    intro K414 hK414
    refine HT_block ?_
    refine HT_seq_k ?_
    intro K415 hK415
    refine HT_region ?_
    refine HL_cons rfl ?_
    refine o_move ?_
    try dsimp only [putL, setL, evL, getL]
    replace H := headE H
    obtain ⟨u416, hu416, H⟩ := H
    obtain ⟨b416, o416, cs416, hr416, hh416, hel416⟩ := Rd.elb HRp0 hu416
    obtain rfl := hr416
    refine HL_cons rfl ?_
    refine hel416 s375 rfl rfl Try.underlying24 tI3 ?_
    try dsimp only [putL, setL, evL, getL]
    refine HL_cons rfl ?_
    refine o_load' rfl Try.underlying3 rfl ((hh416 hH.bs.mono) 0 _ rfl) ?_
    try dsimp only [putL, setL, evL, getL]
    refine HL_cons rfl ?_
    refine o_assign ?_
    try dsimp only [putL, setL, evL, getL]
    refine HL_cons rfl ?_
    refine o_assign ?_
    try dsimp only [putL, setL, evL, getL]
    refine HL_nil ?_
    refine hK415 _ _ ?_
    refine HT_seq_k ?_
    intro K417 hK417
    refine HT_region ?_
    refine HL_cons rfl ?_
    refine o_assign ?_
    try dsimp only [putL, setL, evL, getL]
    refine HL_nil ?_
    refine hK417 _ _ ?_
    refine joinH H fun G418 hG418 H => ?_
    refine HT_joinK (fun l' s' => ∃ (x431 : Int), G418 x431 = some r ∧ l' = [.slice A0p p0.length c0p, undef, j2, .int .i64 x300, .int .i64 u416, .int .i64 x431, .slice A0p p0.length c0p, .int .i64 (p0.length : Int), .int .i64 x300, .bool (decide (x300 < (p0.length : Int))), .int .i64 x300, .pointer (some ⟨b416, o416, none⟩), .int .i64 u416, getL l' 13, getL l' 14, getL l' 15, getL l' 16, getL l' 17, getL l' 18, getL l' 19, getL l' 20, getL l' 21, getL l' 22, getL l' 23, getL l' 24, getL l' 25, getL l' 26, getL l' 27, getL l' 28, getL l' 29, getL l' 30, getL l' 31, getL l' 32, getL l' 33, getL l' 34, j35, j36, j37, j38, j39, undef, undef, undef, undef, undef, undef, undef, undef, undef] ∧ Hp sb s F0 s' []) ?_ ?_
    ·intro K418 hK418
     refine HT_block ?_
     refine joinH H fun G432 hG432 H => ?_
     refine HT_joinK (fun l' s' => ∃ (x435 : Bool), G432 x435 = some r ∧ l' = [.slice A0p p0.length c0p, undef, j2, .int .i64 x300, .int .i64 u416, .int .i64 0, .slice A0p p0.length c0p, .int .i64 (p0.length : Int), .int .i64 x300, .bool (decide (x300 < (p0.length : Int))), .int .i64 x300, .pointer (some ⟨b416, o416, none⟩), .int .i64 u416, .bool x435, getL l' 14, getL l' 15, getL l' 16, getL l' 17, getL l' 18, getL l' 19, getL l' 20, j21, j22, j23, j24, j25, j26, j27, j28, j29, j30, j31, j32, j33, j34, j35, j36, j37, j38, j39, undef, undef, undef, undef, undef, undef, undef, undef, undef] ∧ Hp sb s F0 s' []) ?_ ?_
     ·intro K432 hK432
      refine HT_region ?_
      refine HL_cons rfl ?_
      refine o_move ?_
      try dsimp only [putL, setL, evL, getL]
      refine HL_cons rfl ?_
      refine o_bin rfl rfl rfl ?_
      try dsimp only [putL, setL, evL, getL]
      refine HL_cons rfl ?_
      refine o_move ?_
      try dsimp only [putL, setL, evL, getL]
      rcases Bool.eq_false_or_eq_true (decide (x300 > 0)) with hb436 | hb436
      ·replace H := iteT hb436 H
       refine HL_want ?_ ?_
       ·exact wantT (j := 2) (b := true) (t := 16) (c := decide (x300 > 0)) rfl rfl rfl rfl hb436
       refine o_move ?_
       try dsimp only [putL, setL, evL, getL]
       replace H := headE H
       obtain ⟨u437, hu437, H⟩ := H
       refine HL_want ?_ ?_
       ·exact wantT (j := 2) (b := true) (t := 16) (c := decide (x300 > 0)) rfl rfl rfl rfl hb436
       refine o_rem' rfl rfl hu437 ?_
       try dsimp only [putL, setL, evL, getL]
       refine HL_want ?_ ?_
       ·exact wantT (j := 2) (b := true) (t := 16) (c := decide (x300 > 0)) rfl rfl rfl rfl hb436
       refine o_bin rfl rfl rfl ?_
       try dsimp only [putL, setL, evL, getL]
       refine HL_cons rfl ?_
       refine o_pickT rfl hb436 ?_
       try dsimp only [putL, setL, evL, getL]
       refine HL_cons rfl ?_
       refine o_assign ?_
       try dsimp only [putL, setL, evL, getL]
       refine HL_nil ?_
       exact hK432 _ _ ⟨u437 == 0, H, rfl, hH⟩
      ·replace H := iteF hb436 H
       refine HL_skip ?_ ?_
       ·exact wantF (j := 2) (b := true) (t := 16) (c := decide (x300 > 0)) rfl rfl rfl rfl hb436
       try dsimp only [putL, setL, evL, getL]
       refine HL_skip ?_ ?_
       ·exact wantF (j := 2) (b := true) (t := 16) (c := decide (x300 > 0)) rfl rfl rfl rfl hb436
       try dsimp only [putL, setL, evL, getL]
       refine HL_skip ?_ ?_
       ·exact wantF (j := 2) (b := true) (t := 16) (c := decide (x300 > 0)) rfl rfl rfl rfl hb436
       try dsimp only [putL, setL, evL, getL]
       refine HL_cons rfl ?_
       refine o_pickF rfl hb436 ?_
       try dsimp only [putL, setL, evL, getL]
       refine HL_cons rfl ?_
       refine o_assign ?_
       try dsimp only [putL, setL, evL, getL]
       refine HL_nil ?_
       exact hK432 _ _ ⟨false, H, rfl, hH⟩
     ·rintro l' s438 ⟨x435, H, hl, hH⟩
      generalize getL l' 14 = j14, getL l' 15 = j15, getL l' 16 = j16, getL l' 17 = j17, getL l' 18 = j18, getL l' 19 = j19, getL l' 20 = j20 at hl
      subst hl
      replace H := hG432 _ H
      try dsimp only at H
      rcases Bool.eq_false_or_eq_true x435 with hb439 | hb439
      ·replace H := iteT hb439 H
       refine HT_true (congrArg Value.bool hb439) ?_
       refine HT_region ?_
       refine HL_cons rfl ?_
       refine o_move ?_
       try dsimp only [putL, setL, evL, getL]
       refine HL_cons rfl ?_
       refine o_move ?_
       try dsimp only [putL, setL, evL, getL]
       refine HL_cons rfl ?_
       refine o_bin rfl rfl rfl ?_
       try dsimp only [putL, setL, evL, getL]
       replace H := headE H
       obtain ⟨u440, hu440, H⟩ := H
       obtain ⟨b440, o440, cs440, hr440, hh440, hel440⟩ := Rd.elb HRp0 hu440
       obtain rfl := hr440
       refine HL_cons rfl ?_
       refine hel440 s438 rfl rfl Try.underlying24 tI3 ?_
       try dsimp only [putL, setL, evL, getL]
       refine HL_cons rfl ?_
       refine o_load' rfl Try.underlying3 rfl ((hh440 hH.bs.mono) 0 _ rfl) ?_
       try dsimp only [putL, setL, evL, getL]
       refine HL_cons rfl ?_
       refine o_bin rfl rfl rfl ?_
       try dsimp only [putL, setL, evL, getL]
       refine HL_cons rfl ?_
       refine o_assign ?_
       try dsimp only [putL, setL, evL, getL]
       refine HL_nil ?_
       exact hK418 _ _ ⟨IntKind.i64.wrap (u440 + 2), H, rfl, hH⟩
      ·replace H := iteF hb439 H
       refine HT_false (congrArg Value.bool hb439) ?_
       refine HT_seq_k ?_
       intro K441 hK441
       refine HT_region ?_
       refine HL_cons rfl ?_
       refine o_move ?_
       try dsimp only [putL, setL, evL, getL]
       refine HL_cons rfl ?_
       refine o_bin rfl rfl rfl ?_
       try dsimp only [putL, setL, evL, getL]
       refine HL_cons rfl ?_
       refine o_assign ?_
       try dsimp only [putL, setL, evL, getL]
       refine HL_nil ?_
       refine hK441 _ _ ?_
       rcases Bool.eq_false_or_eq_true (decide (x300 > 0)) with hb442 | hb442
       ·replace H := iteT hb442 H
        refine HT_true (congrArg Value.bool hb442) ?_
        refine HT_region ?_
        refine HL_cons rfl ?_
        refine o_move ?_
        try dsimp only [putL, setL, evL, getL]
        refine HL_cons rfl ?_
        refine o_move ?_
        try dsimp only [putL, setL, evL, getL]
        refine HL_cons rfl ?_
        refine o_bin rfl rfl rfl ?_
        try dsimp only [putL, setL, evL, getL]
        replace H := headE H
        obtain ⟨u443, hu443, H⟩ := H
        obtain ⟨b443, o443, cs443, hr443, hh443, hel443⟩ := Rd.elb HRp0 hu443
        obtain rfl := hr443
        refine HL_cons rfl ?_
        refine hel443 s438 rfl rfl Try.underlying24 tI3 ?_
        try dsimp only [putL, setL, evL, getL]
        refine HL_cons rfl ?_
        refine o_load' rfl Try.underlying3 rfl ((hh443 hH.bs.mono) 0 _ rfl) ?_
        try dsimp only [putL, setL, evL, getL]
        refine HL_cons rfl ?_
        refine o_assign ?_
        try dsimp only [putL, setL, evL, getL]
        refine HL_nil ?_
        exact hK418 _ _ ⟨u443, H, rfl, hH⟩
       ·replace H := iteF hb442 H
        refine HT_false (congrArg Value.bool hb442) ?_
        refine HT_skip ?_
        exact hK418 _ _ ⟨0, H, rfl, hH⟩
    ·rintro l' s444 ⟨x431, H, hl, hH⟩
     generalize getL l' 13 = j13, getL l' 14 = j14, getL l' 15 = j15, getL l' 16 = j16, getL l' 17 = j17, getL l' 18 = j18, getL l' 19 = j19, getL l' 20 = j20, getL l' 21 = j21, getL l' 22 = j22, getL l' 23 = j23, getL l' 24 = j24, getL l' 25 = j25, getL l' 26 = j26, getL l' 27 = j27, getL l' 28 = j28, getL l' 29 = j29, getL l' 30 = j30, getL l' 31 = j31, getL l' 32 = j32, getL l' 33 = j33, getL l' 34 = j34 at hl
     subst hl
     replace H := hG418 _ H
     try dsimp only at H
     refine HT_seq_k ?_
     intro K445 hK445
     refine HT_region ?_
     refine HL_cons rfl ?_
     refine o_move ?_
     try dsimp only [putL, setL, evL, getL]
     refine HL_cons rfl ?_
     refine o_move ?_
     try dsimp only [putL, setL, evL, getL]
     replace H := headE H
     obtain ⟨u446, hu446, H⟩ := H
     refine HL_cons rfl ?_
     refine o_call (args := #[.int .i64 u416, .int .i64 x431, .int .i64 1114111]) Try.func105 rfl rfl rfl (impl_inRange.ok sb s444 no u416 x431 1114111 (Hp.own hH.bs) _ hu446) ?_
     rintro _ s446 ⟨rfl, hD⟩
     replace hH := hH.back0 hD (Up.refl _ _ _)
     clear hD
     dsimp only [addC, setC, rmC, selC, getC] at hH
     try dsimp only [putL, setL, evL, getL]
     refine HL_cons rfl ?_
     refine o_not rfl ?_
     try dsimp only [putL, setL, evL, getL]
     refine HL_nil ?_
     refine hK445 _ _ ?_
     rcases Bool.eq_false_or_eq_true (!u446) with hb447 | hb447
     ·replace H := iteT hb447 H
      refine HT_true (congrArg Value.bool hb447) ?_
      refine HT_seq_k ?_
      intro K448 hK448
      refine HT_region ?_
      refine HL_cons rfl ?_
      refine o_assign ?_
      try dsimp only [putL, setL, evL, getL]
      refine HL_nil ?_
      refine hK448 _ _ ?_
      refine HT_ret ?_
      replace H := escH (fun z hz => hG4 _ hz) H
      exact hQr _ _ [.bool false] ⟨rfl, trivial⟩ (retH (fun r => impl_GoodSet.post sb s F0 r _ _) (show some _ = some r from H) ⟨rfl, hH⟩)
     ·replace H := iteF hb447 H
      refine HT_false (congrArg Value.bool hb447) ?_
      refine HT_skip ?_
      refine hK414 _ _ ?_
      refine HT_region ?_
      refine HL_cons rfl ?_
      refine o_bin rfl rfl rfl ?_
      try dsimp only [putL, setL, evL, getL]
      refine HL_cons rfl ?_
      refine o_move ?_
      try dsimp only [putL, setL, evL, getL]
      refine HL_nil ?_
      exact hK375 _ _ ⟨kf, Nat.lt_succ_self kf, IntKind.i64.wrap (x300 + 1), H, rfl, hH⟩
   ·replace H := iteF hb378 H
    refine HT_false (congrArg Value.bool hb378) ?_
    refine HT_exit ?_
    exact hK4 _ _ ⟨H, rfl, hH⟩
 ·rintro l' s449 ⟨H, hl, hH⟩
  generalize getL l' 2 = j2, getL l' 3 = j3, getL l' 4 = j4, getL l' 5 = j5, getL l' 8 = j8, getL l' 9 = j9, getL l' 10 = j10, getL l' 11 = j11, getL l' 12 = j12, getL l' 13 = j13, getL l' 14 = j14, getL l' 15 = j15, getL l' 16 = j16, getL l' 17 = j17, getL l' 18 = j18, getL l' 19 = j19, getL l' 20 = j20, getL l' 21 = j21, getL l' 22 = j22, getL l' 23 = j23, getL l' 24 = j24, getL l' 25 = j25, getL l' 26 = j26, getL l' 27 = j27, getL l' 28 = j28, getL l' 29 = j29, getL l' 30 = j30, getL l' 31 = j31, getL l' 32 = j32, getL l' 33 = j33, getL l' 34 = j34, getL l' 35 = j35, getL l' 36 = j36, getL l' 37 = j37, getL l' 38 = j38, getL l' 39 = j39 at hl
  subst hl
  replace H := hG4 _ H
  try dsimp only at H
  refine hK2 _ _ ?_
  refine HT_seq_k ?_
  intro K450 hK450
  refine HT_region ?_
  refine HL_cons rfl ?_
  refine o_move ?_
  try dsimp only [putL, setL, evL, getL]
  refine HL_cons rfl ?_
  refine o_len rfl Try.underlying24 ?_
  try dsimp only [putL, setL, evL, getL]
  replace H := headE H
  obtain ⟨u451, hu451, H⟩ := H
  refine HL_cons rfl ?_
  refine o_rem' rfl rfl hu451 ?_
  try dsimp only [putL, setL, evL, getL]
  refine HL_cons rfl ?_
  refine o_bin rfl rfl rfl ?_
  try dsimp only [putL, setL, evL, getL]
  refine HL_cons rfl ?_
  refine o_move ?_
  try dsimp only [putL, setL, evL, getL]
  rcases Bool.eq_false_or_eq_true (u451 == 0) with hb452 | hb452
  ·replace H := iteT hb452 H
   refine HL_want ?_ ?_
   ·exact wantT (j := 4) (b := true) (t := 44) (c := u451 == 0) rfl rfl rfl rfl hb452
   refine o_move ?_
   try dsimp only [putL, setL, evL, getL]
   refine HL_want ?_ ?_
   ·exact wantT (j := 4) (b := true) (t := 44) (c := u451 == 0) rfl rfl rfl rfl hb452
   refine o_len rfl Try.underlying24 ?_
   try dsimp only [putL, setL, evL, getL]
   refine HL_want ?_ ?_
   ·exact wantT (j := 4) (b := true) (t := 44) (c := u451 == 0) rfl rfl rfl rfl hb452
   refine o_bin rfl rfl rfl ?_
   try dsimp only [putL, setL, evL, getL]
   refine HL_cons rfl ?_
   refine o_pickT rfl hb452 ?_
   try dsimp only [putL, setL, evL, getL]
   refine HL_cons rfl ?_
   refine o_assign ?_
   try dsimp only [putL, setL, evL, getL]
   refine HL_nil ?_
   refine hK450 _ _ ?_
   refine HT_ret ?_
   exact hQr _ _ [.bool (decide ((p0.length : Int) ≤ 24))] ⟨rfl, trivial⟩ (retH (fun r => impl_GoodSet.post sb s F0 r _ _) (show some _ = some r from H) ⟨rfl, hH⟩)
  ·replace H := iteF hb452 H
   refine HL_skip ?_ ?_
   ·exact wantF (j := 4) (b := true) (t := 44) (c := u451 == 0) rfl rfl rfl rfl hb452
   try dsimp only [putL, setL, evL, getL]
   refine HL_skip ?_ ?_
   ·exact wantF (j := 4) (b := true) (t := 44) (c := u451 == 0) rfl rfl rfl rfl hb452
   try dsimp only [putL, setL, evL, getL]
   refine HL_skip ?_ ?_
   ·exact wantF (j := 4) (b := true) (t := 44) (c := u451 == 0) rfl rfl rfl rfl hb452
   try dsimp only [putL, setL, evL, getL]
   refine HL_cons rfl ?_
   refine o_pickF rfl hb452 ?_
   try dsimp only [putL, setL, evL, getL]
   refine HL_cons rfl ?_
   refine o_assign ?_
   try dsimp only [putL, setL, evL, getL]
   refine HL_nil ?_
   refine hK450 _ _ ?_
   refine HT_ret ?_
   exact hQr _ _ [.bool false] ⟨rfl, trivial⟩ (retH (fun r => impl_GoodSet.post sb s F0 r _ _) (show some _ = some r from H) ⟨rfl, hH⟩)
def impl_GoodRune.f (p0 : Int) : Option Bool := (impl_inRange.f p0 0 1114111).bind fun u3 => if u3 = true then ((impl_inRange.f p0 55296 57343).bind fun u5 => some (!u5)) else (some false)
def impl_GoodRune.post (sb s : St) (F0 : Fp) (r : Bool) : Value → St → Prop := fun v s' => v = .bool r ∧ Hp sb s F0 s' []
set_option maxRecDepth 100000 in
set_option maxHeartbeats 4000000 in
theorem impl_GoodRune.ok (sb s : St) (F0 : Fp) (p0 : Int) (hH : Hp sb s F0 s []) (r : Bool) (H : impl_GoodRune.f p0 = some r) : GCall Try.prog 146 #[.int .i64 p0] s (impl_GoodRune.post sb s F0 r) := by
 refine GCall_ofk [.tmp 2] [.int .i64 p0, undef, undef, undef, undef, undef, undef, undef, undef, undef] Try.func146 rfl rfl rfl ?_
 intro w Q hQr hQn hQp
 replace H := topE H
 unfold impl_GoodRune.f at H
 refine HT_seq_k ?_
 intro K1 hK1
 refine HT_region ?_
 refine HL_cons rfl ?_
 refine o_assign ?_
 try dsimp only [putL, setL, evL, getL]
 refine HL_nil ?_
 refine hK1 _ _ ?_
 refine HT_seq_k ?_
 intro K2 hK2
 refine HT_region ?_
 refine HL_cons rfl ?_
 refine o_move ?_
 try dsimp only [putL, setL, evL, getL]
 replace H := headE H
 obtain ⟨u3, hu3, H⟩ := H
 refine HL_cons rfl ?_
 refine o_call (args := #[.int .i64 p0, .int .i64 0, .int .i64 1114111]) Try.func105 rfl rfl rfl (impl_inRange.ok sb s no p0 0 1114111 (Hp.own hH.bs) _ hu3) ?_
 rintro _ s3 ⟨rfl, hD⟩
 replace hH := hH.back0 hD (Up.refl _ _ _)
 clear hD
 dsimp only [addC, setC, rmC, selC, getC] at hH
 try dsimp only [putL, setL, evL, getL]
 refine HL_cons rfl ?_
 refine o_move ?_
 try dsimp only [putL, setL, evL, getL]
 rcases Bool.eq_false_or_eq_true u3 with hb4 | hb4
 ·replace H := iteT hb4 H
  refine HL_want ?_ ?_
  ·exact wantT (j := 2) (b := true) (t := 5) (c := u3) rfl rfl rfl rfl hb4
  refine o_move ?_
  try dsimp only [putL, setL, evL, getL]
  replace H := headE H
  obtain ⟨u5, hu5, H⟩ := H
  refine HL_want ?_ ?_
  ·exact wantT (j := 2) (b := true) (t := 5) (c := u3) rfl rfl rfl rfl hb4
  refine o_call (args := #[.int .i64 p0, .int .i64 55296, .int .i64 57343]) Try.func105 rfl rfl rfl (impl_inRange.ok sb s3 no p0 55296 57343 (Hp.own hH.bs) _ hu5) ?_
  rintro _ s5 ⟨rfl, hD⟩
  replace hH := hH.back0 hD (Up.refl _ _ _)
  clear hD
  dsimp only [addC, setC, rmC, selC, getC] at hH
  try dsimp only [putL, setL, evL, getL]
  refine HL_want ?_ ?_
  ·exact wantT (j := 2) (b := true) (t := 5) (c := u3) rfl rfl rfl rfl hb4
  refine o_not rfl ?_
  try dsimp only [putL, setL, evL, getL]
  refine HL_cons rfl ?_
  refine o_pickT rfl hb4 ?_
  try dsimp only [putL, setL, evL, getL]
  refine HL_cons rfl ?_
  refine o_assign ?_
  try dsimp only [putL, setL, evL, getL]
  refine HL_nil ?_
  refine hK2 _ _ ?_
  refine HT_ret ?_
  exact hQr _ _ [.bool (!u5)] ⟨rfl, trivial⟩ (retH (fun r => impl_GoodRune.post sb s F0 r _ _) (show some _ = some r from H) ⟨rfl, hH⟩)
 ·replace H := iteF hb4 H
  refine HL_skip ?_ ?_
  ·exact wantF (j := 2) (b := true) (t := 5) (c := u3) rfl rfl rfl rfl hb4
  try dsimp only [putL, setL, evL, getL]
  refine HL_skip ?_ ?_
  ·exact wantF (j := 2) (b := true) (t := 5) (c := u3) rfl rfl rfl rfl hb4
  try dsimp only [putL, setL, evL, getL]
  refine HL_skip ?_ ?_
  ·exact wantF (j := 2) (b := true) (t := 5) (c := u3) rfl rfl rfl rfl hb4
  try dsimp only [putL, setL, evL, getL]
  refine HL_cons rfl ?_
  refine o_pickF rfl hb4 ?_
  try dsimp only [putL, setL, evL, getL]
  refine HL_cons rfl ?_
  refine o_assign ?_
  try dsimp only [putL, setL, evL, getL]
  refine HL_nil ?_
  refine hK2 _ _ ?_
  refine HT_ret ?_
  exact hQr _ _ [.bool false] ⟨rfl, trivial⟩ (retH (fun r => impl_GoodRune.post sb s F0 r _ _) (show some _ = some r from H) ⟨rfl, hH⟩)
def impl_GoodRe_1_1.f (p0 : Int) : Option Bool := (impl_GoodRune.f p0).bind fun u3 => some (!u3)
def impl_GoodRe_1_1.post (sb s : St) (F0 : Fp) (r : Bool) : Value → St → Prop := fun v s' => v = .bool r ∧ Hp sb s F0 s' []
set_option maxRecDepth 100000 in
set_option maxHeartbeats 4000000 in
theorem impl_GoodRe_1_1.ok (sb s : St) (F0 : Fp) (p0 : Int) (hH : Hp sb s F0 s []) (r : Bool) (H : impl_GoodRe_1_1.f p0 = some r) : GCall Try.prog 193 #[.int .i64 p0] s (impl_GoodRe_1_1.post sb s F0 r) := by
 refine GCall_ofk [.tmp 2] [.int .i64 p0, undef, undef, undef, undef, undef] Try.func193 rfl rfl rfl ?_
 intro w Q hQr hQn hQp
 replace H := topE H
 unfold impl_GoodRe_1_1.f at H
 refine HT_seq_k ?_
 intro K1 hK1
 refine HT_region ?_
 refine HL_cons rfl ?_
 refine o_assign ?_
 try dsimp only [putL, setL, evL, getL]
 refine HL_nil ?_
 refine hK1 _ _ ?_
 refine HT_seq_k ?_
 intro K2 hK2
 refine HT_region ?_
 refine HL_cons rfl ?_
 refine o_move ?_
 try dsimp only [putL, setL, evL, getL]
 replace H := headE H
 obtain ⟨u3, hu3, H⟩ := H
 refine HL_cons rfl ?_
 refine o_call (args := #[.int .i64 p0]) Try.func146 rfl rfl rfl (impl_GoodRune.ok sb s no p0 (Hp.own hH.bs) _ hu3) ?_
 rintro _ s3 ⟨rfl, hD⟩
 replace hH := hH.back0 hD (Up.refl _ _ _)
 clear hD
 dsimp only [addC, setC, rmC, selC, getC] at hH
 try dsimp only [putL, setL, evL, getL]
 refine HL_cons rfl ?_
 refine o_not rfl ?_
 try dsimp only [putL, setL, evL, getL]
 refine HL_cons rfl ?_
 refine o_assign ?_
 try dsimp only [putL, setL, evL, getL]
 refine HL_nil ?_
 refine hK2 _ _ ?_
 refine HT_ret ?_
 exact hQr _ _ [.bool (!u3)] ⟨rfl, trivial⟩ (retH (fun r => impl_GoodRe_1_1.post sb s F0 r _ _) (show some _ = some r from H) ⟨rfl, hH⟩)
def slices_IndexFunc_int_int_impl_GoodRe_1_1.l1 (p0 : List (Int)) : Nat → Int → Option (Lo Unit Int)
 | 0, _ => none
 | kf + 1, x48 => if (decide (x48 < (p0.length : Int))) = true then ((rd? p0 x48).bind fun u67 => (impl_GoodRe_1_1.f u67).bind fun u68 => if u68 = true then ((some x48).bind fun z => some (Lo.ret z)) else (slices_IndexFunc_int_int_impl_GoodRe_1_1.l1 p0 kf (IntKind.i64.wrap (x48 + 1)))) else (some (Lo.go ()))
def slices_IndexFunc_int_int_impl_GoodRe_1_1.f (p0 : List (Int)) : Option Int := (slices_IndexFunc_int_int_impl_GoodRe_1_1.l1 p0 ((((p0.length : Int)) - (0)).toNat + 2) 0).bind fun (o : Lo Unit Int) => match o with | .go () => (some (-1)) | .ret z => some z
def slices_IndexFunc_int_int_impl_GoodRe_1_1.post (sb s : St) (F0 : Fp) (r : Int) : Value → St → Prop := fun v s' => v = .int .i64 r ∧ Hp sb s F0 s' []
set_option maxRecDepth 100000 in
set_option maxHeartbeats 4000000 in
theorem slices_IndexFunc_int_int_impl_GoodRe_1_1.ok (sb s : St) (F0 : Fp) (A0p : Option Addr) (c0p : Nat) (p0 : List (Int)) (HRp0 : Rd KI sb A0p c0p p0) (hH : Hp sb s F0 s []) (r : Int) (H : slices_IndexFunc_int_int_impl_GoodRe_1_1.f p0 = some r) : GCall Try.prog 184 #[.slice A0p p0.length c0p, .func (.func 193) #[] #[]] s (slices_IndexFunc_int_int_impl_GoodRe_1_1.post sb s F0 r) := by
 refine GCall_ofk [.tmp 4] [.slice A0p p0.length c0p, .func (.func 193) #[] #[], undef, undef, undef, undef, undef, undef, undef, undef, undef, undef, undef, undef, undef, undef, undef, undef, undef] Try.func184 rfl rfl rfl ?_
 intro w Q hQr hQn hQp
 replace H := topE H
 unfold slices_IndexFunc_int_int_impl_GoodRe_1_1.f at H
 refine HT_seq_k ?_
 intro K1 hK1
 refine HT_region ?_
 refine HL_cons rfl ?_
 refine o_assign ?_
 try dsimp only [putL, setL, evL, getL]
 refine HL_nil ?_
 refine hK1 _ _ ?_
 refine HT_seq_k ?_
 intro K2 hK2
 refine HT_seq_k ?_
 intro K3 hK3
 refine HT_region ?_
 refine HL_cons rfl ?_
 refine o_move ?_
 try dsimp only [putL, setL, evL, getL]
 refine HL_cons rfl ?_
 refine o_len rfl Try.underlying24 ?_
 try dsimp only [putL, setL, evL, getL]
 refine HL_cons rfl ?_
 refine o_move ?_
 try dsimp only [putL, setL, evL, getL]
 refine HL_nil ?_
 refine hK3 _ _ ?_
 refine joinH H fun G4 hG4 H => ?_
 refine HT_toK (fun l' s' => G4 (.go ()) = some r ∧ l' = [.slice A0p p0.length c0p, .func (.func 193) #[] #[], undef, undef, getL l' 4, getL l' 5, .slice A0p p0.length c0p, .int .i64 (p0.length : Int), getL l' 8, getL l' 9, getL l' 10, getL l' 11, getL l' 12, getL l' 13, getL l' 14, getL l' 15, getL l' 16, getL l' 17, getL l' 18] ∧ Hp sb s F0 s' []) ?_ ?_
 ·intro K4 hK4
  refine HT_block ?_
  refine HT_loopK (fun kf l' s' => ∃ (x48 : Int), (slices_IndexFunc_int_int_impl_GoodRe_1_1.l1 p0 kf x48).bind G4 = some r ∧ l' = [.slice A0p p0.length c0p, .func (.func 193) #[] #[], undef, undef, getL l' 4, getL l' 5, .slice A0p p0.length c0p, .int .i64 (p0.length : Int), .int .i64 x48, getL l' 9, getL l' 10, getL l' 11, getL l' 12, getL l' 13, getL l' 14, getL l' 15, getL l' 16, getL l' 17, getL l' 18] ∧ Hp sb s F0 s' []) ((((p0.length : Int)) - (0)).toNat + 2) ⟨0, H, rfl, hH⟩ ?_
  rintro kf l' s60 ⟨x48, H, hl, hH⟩ K60 hK60
  generalize getL l' 4 = j4, getL l' 5 = j5, getL l' 9 = j9, getL l' 10 = j10, getL l' 11 = j11, getL l' 12 = j12, getL l' 13 = j13, getL l' 14 = j14, getL l' 15 = j15, getL l' 16 = j16, getL l' 17 = j17, getL l' 18 = j18 at hl
  subst hl
  cases kf with
  | zero => simp [slices_IndexFunc_int_int_impl_GoodRe_1_1.l1] at H
  | succ kf =>
   rw [slices_IndexFunc_int_int_impl_GoodRe_1_1.l1] at H
   refine HT_seq_k ?_
   intro K61 hK61
   refine HT_region ?_
   refine HL_cons rfl ?_
   refine o_bin rfl rfl rfl ?_
   try dsimp only [putL, setL, evL, getL]
   refine HL_nil ?_
   refine hK61 _ _ ?_
   refine HT_seq_k ?_
   intro K62 hK62
   rcases Bool.eq_false_or_eq_true (decide (x48 < (p0.length : Int))) with hb63 | hb63
   ·replace H := iteT hb63 H
    refine HT_true (congrArg Value.bool hb63) ?_
    refine HT_skip ?_
    refine hK62 _ _ ?_
    refine HT_seq_k ?_
    intro K64 hK64
    refine HT_block ?_
    refine HT_seq_k ?_
    intro K65 hK65
    refine HT_region ?_
    refine HL_cons rfl ?_
    refine o_move ?_
    try dsimp only [putL, setL, evL, getL]
    refine HL_cons rfl ?_
    refine o_assign ?_
    try dsimp only [putL, setL, evL, getL]
    refine HL_nil ?_
    refine hK65 _ _ ?_
    refine HT_seq_k ?_
    intro K66 hK66
    refine HT_region ?_
    refine HL_cons rfl ?_
    refine o_move ?_
    try dsimp only [putL, setL, evL, getL]
    refine HL_cons rfl ?_
    refine o_move ?_
    try dsimp only [putL, setL, evL, getL]
    refine HL_cons rfl ?_
    refine o_move ?_
    try dsimp only [putL, setL, evL, getL]
    replace H := headE H
    obtain ⟨u67, hu67, H⟩ := H
    obtain ⟨b67, o67, cs67, hr67, hh67, hel67⟩ := Rd.elb HRp0 hu67
    obtain rfl := hr67
    refine HL_cons rfl ?_
    refine hel67 s60 rfl rfl Try.underlying24 tI3 ?_
    try dsimp only [putL, setL, evL, getL]
    refine HL_cons rfl ?_
    refine o_load' rfl Try.underlying3 rfl ((hh67 hH.bs.mono) 0 _ rfl) ?_
    try dsimp only [putL, setL, evL, getL]
    replace H := headE H
    obtain ⟨u68, hu68, H⟩ := H
    refine HL_cons rfl ?_
    refine o_callv (first := #[]) (cap := #[]) (args := #[.int .i64 u67]) rfl Try.func193 rfl rfl [.int .i64 u67] rfl (by simp) (impl_GoodRe_1_1.ok sb s60 no u67 (Hp.own hH.bs) _ hu68) ?_
    rintro _ s68 ⟨rfl, hD⟩
    replace hH := hH.back0 hD (Up.refl _ _ _)
    clear hD
    dsimp only [addC, setC, rmC, selC, getC] at hH
    try dsimp only [putL, setL, evL, getL]
    refine HL_nil ?_
    refine hK66 _ _ ?_
    rcases Bool.eq_false_or_eq_true u68 with hb69 | hb69
    ·replace H := iteT hb69 H
     refine HT_true (congrArg Value.bool hb69) ?_
     refine HT_seq_k ?_
     intro K70 hK70
     refine HT_region ?_
     refine HL_cons rfl ?_
     refine o_move ?_
     try dsimp only [putL, setL, evL, getL]
     refine HL_cons rfl ?_
     refine o_assign ?_
     try dsimp only [putL, setL, evL, getL]
     refine HL_nil ?_
     refine hK70 _ _ ?_
     refine HT_ret ?_
     replace H := escH (fun z hz => hG4 _ hz) H
     exact hQr _ _ [.int .i64 x48] ⟨rfl, trivial⟩ (retH (fun r => slices_IndexFunc_int_int_impl_GoodRe_1_1.post sb s F0 r _ _) (show some _ = some r from H) ⟨rfl, hH⟩)
    ·replace H := iteF hb69 H
     refine HT_false (congrArg Value.bool hb69) ?_
     refine HT_skip ?_
     refine hK64 _ _ ?_
     refine HT_region ?_
     refine HL_cons rfl ?_
     refine o_bin rfl rfl rfl ?_
     try dsimp only [putL, setL, evL, getL]
     refine HL_cons rfl ?_
     refine o_move ?_
     try dsimp only [putL, setL, evL, getL]
     refine HL_nil ?_
     exact hK60 _ _ ⟨kf, Nat.lt_succ_self kf, IntKind.i64.wrap (x48 + 1), H, rfl, hH⟩
   ·replace H := iteF hb63 H
    refine HT_false (congrArg Value.bool hb63) ?_
    refine HT_exit ?_
    exact hK4 _ _ ⟨H, rfl, hH⟩
 ·rintro l' s71 ⟨H, hl, hH⟩
  generalize getL l' 4 = j4, getL l' 5 = j5, getL l' 8 = j8, getL l' 9 = j9, getL l' 10 = j10, getL l' 11 = j11, getL l' 12 = j12, getL l' 13 = j13, getL l' 14 = j14, getL l' 15 = j15, getL l' 16 = j16, getL l' 17 = j17, getL l' 18 = j18 at hl
  subst hl
  replace H := hG4 _ H
  try dsimp only at H
  refine hK2 _ _ ?_
  refine HT_seq_k ?_
  intro K72 hK72
  refine HT_region ?_
  refine HL_cons rfl ?_
  refine o_assign ?_
  try dsimp only [putL, setL, evL, getL]
  refine HL_nil ?_
  refine hK72 _ _ ?_
  refine HT_ret ?_
  exact hQr _ _ [.int .i64 (-1)] ⟨rfl, trivial⟩ (retH (fun r => slices_IndexFunc_int_int_impl_GoodRe_1_1.post sb s F0 r _ _) (show some _ = some r from H) ⟨rfl, hH⟩)
def slices_ContainsFunc_int_int_impl_GoodRe_1_1.f (p0 : List (Int)) : Option Bool := (slices_IndexFunc_int_int_impl_GoodRe_1_1.f p0).bind fun u3 => some (decide (u3 ≥ 0))
def slices_ContainsFunc_int_int_impl_GoodRe_1_1.post (sb s : St) (F0 : Fp) (r : Bool) : Value → St → Prop := fun v s' => v = .bool r ∧ Hp sb s F0 s' []
set_option maxRecDepth 100000 in
set_option maxHeartbeats 4000000 in
theorem slices_ContainsFunc_int_int_impl_GoodRe_1_1.ok (sb s : St) (F0 : Fp) (A0p : Option Addr) (c0p : Nat) (p0 : List (Int)) (HRp0 : Rd KI sb A0p c0p p0) (hH : Hp sb s F0 s []) (r : Bool) (H : slices_ContainsFunc_int_int_impl_GoodRe_1_1.f p0 = some r) : GCall Try.prog 114 #[.slice A0p p0.length c0p, .func (.func 193) #[] #[]] s (slices_ContainsFunc_int_int_impl_GoodRe_1_1.post sb s F0 r) := by
 refine GCall_ofk [.tmp 4] [.slice A0p p0.length c0p, .func (.func 193) #[] #[], undef, undef, undef, undef, undef, undef, undef] Try.func114 rfl rfl rfl ?_
 intro w Q hQr hQn hQp
 replace H := topE H
 unfold slices_ContainsFunc_int_int_impl_GoodRe_1_1.f at H
 refine HT_seq_k ?_
 intro K1 hK1
 refine HT_region ?_
 refine HL_cons rfl ?_
 refine o_assign ?_
 try dsimp only [putL, setL, evL, getL]
 refine HL_nil ?_
 refine hK1 _ _ ?_
 refine HT_seq_k ?_
 intro K2 hK2
 refine HT_region ?_
 refine HL_cons rfl ?_
 refine o_move ?_
 try dsimp only [putL, setL, evL, getL]
 refine HL_cons rfl ?_
 refine o_move ?_
 try dsimp only [putL, setL, evL, getL]
 replace H := headE H
 obtain ⟨u3, hu3, H⟩ := H
 refine HL_cons rfl ?_
 refine o_call (args := #[.slice A0p p0.length c0p, .func (.func 193) #[] #[]]) Try.func184 rfl rfl rfl (slices_IndexFunc_int_int_impl_GoodRe_1_1.ok sb s no A0p c0p p0 HRp0 (Hp.own hH.bs) _ hu3) ?_
 rintro _ s3 ⟨rfl, hD⟩
 replace hH := hH.back0 hD (Up.refl _ _ _)
 clear hD
 dsimp only [addC, setC, rmC, selC, getC] at hH
 try dsimp only [putL, setL, evL, getL]
 refine HL_cons rfl ?_
 refine o_bin rfl rfl rfl ?_
 try dsimp only [putL, setL, evL, getL]
 refine HL_cons rfl ?_
 refine o_assign ?_
 try dsimp only [putL, setL, evL, getL]
 refine HL_nil ?_
 refine hK2 _ _ ?_
 refine HT_ret ?_
 exact hQr _ _ [.bool (decide (u3 ≥ 0))] ⟨rfl, trivial⟩ (retH (fun r => slices_ContainsFunc_int_int_impl_GoodRe_1_1.post sb s F0 r _ _) (show some _ = some r from H) ⟨rfl, hH⟩)
def impl_GoodRe_1.f (p0_0 : Int) (p0_1 : List (Int)) : Option Bool := (impl_GoodSet.f p0_1).bind fun u4 => if (!u4) = true then (some true) else ((slices_ContainsFunc_int_int_impl_GoodRe_1_1.f p0_1).bind fun u6 => if u6 = true then (some true) else (if (p0_0 != 2) = true then (some (decide ((p0_1.length : Int) > 0))) else (some false)))
def impl_GoodRe_1.post (sb s : St) (F0 : Fp) (r : Bool) : Value → St → Prop := fun v s' => v = .bool r ∧ Hp sb s F0 s' []
set_option maxRecDepth 100000 in
set_option maxHeartbeats 4000000 in
theorem impl_GoodRe_1.ok (sb s : St) (F0 : Fp) (p0_0 : Int) (A0_1p : Option Addr) (c0_1p : Nat) (p0_1 : List (Int)) (HRp0_1 : Rd KI sb A0_1p c0_1p p0_1) (hH : Hp sb s F0 s []) (r : Bool) (H : impl_GoodRe_1.f p0_0 p0_1 = some r) : GCall Try.prog 191 #[.agg #[.int .i64 p0_0, .slice A0_1p p0_1.length c0_1p]] s (impl_GoodRe_1.post sb s F0 r) := by
 refine GCall_ofk [.tmp 2] [.agg #[.int .i64 p0_0, .slice A0_1p p0_1.length c0_1p], undef, undef, undef, undef, undef, undef, undef, undef, undef, undef, undef, undef, undef, undef, undef, undef, undef, undef, undef, undef, undef, undef] Try.func191 rfl rfl rfl ?_
 intro w Q hQr hQn hQp
 replace H := topE H
 unfold impl_GoodRe_1.f at H
 refine HT_seq_k ?_
 intro K1 hK1
 refine HT_region ?_
 refine HL_cons rfl ?_
 refine o_boxH hH rfl ?_
 intro b2 s2 hH' hG
 replace hH : Hp sb s F0 s2 [Ck.ov b2 [.int .i64 p0_0, .slice A0_1p p0_1.length c0_1p] 139] := hH'
 clear hH' hG
 try dsimp only [putL, setL, evL, getL]
 refine HL_cons rfl ?_
 refine o_assign ?_
 try dsimp only [putL, setL, evL, getL]
 refine HL_nil ?_
 refine hK1 _ _ ?_
 refine HT_seq_k ?_
 intro K3 hK3
 refine HT_region ?_
 refine HL_cons rfl ?_
 refine o_faddr' (ft := 24) (off := 1) rfl Try.underlying139 rfl tI24 (by decide) ?_
 try dsimp only [putL, setL, evL, getL]
 refine HL_cons rfl ?_
 refine o_load' rfl Try.underlying24 rfl (hH.hasv 0 rfl rfl) ?_
 try dsimp only [putL, setL, evL, getL]
 replace H := headE H
 obtain ⟨u4, hu4, H⟩ := H
 refine HL_cons rfl ?_
 refine o_call (args := #[.slice A0_1p p0_1.length c0_1p]) Try.func192 rfl rfl rfl (impl_GoodSet.ok sb s2 no A0_1p c0_1p p0_1 HRp0_1 (Hp.own hH.bs) _ hu4) ?_
 rintro _ s4 ⟨rfl, hD⟩
 replace hH := hH.back0 hD (Up.refl _ _ _)
 clear hD
 dsimp only [addC, setC, rmC, selC, getC] at hH
 try dsimp only [putL, setL, evL, getL]
 refine HL_cons rfl ?_
 refine o_not rfl ?_
 try dsimp only [putL, setL, evL, getL]
 refine HL_cons rfl ?_
 refine o_move ?_
 try dsimp only [putL, setL, evL, getL]
 rcases Bool.eq_false_or_eq_true (!u4) with hb5 | hb5
 ·replace H := iteT hb5 H
  refine HL_skip ?_ ?_
  ·exact wantF (j := 4) (b := false) (t := 7) (c := !u4) rfl rfl rfl rfl hb5
  try dsimp only [putL, setL, evL, getL]
  refine HL_skip ?_ ?_
  ·exact wantF (j := 4) (b := false) (t := 7) (c := !u4) rfl rfl rfl rfl hb5
  try dsimp only [putL, setL, evL, getL]
  refine HL_skip ?_ ?_
  ·exact wantF (j := 4) (b := false) (t := 7) (c := !u4) rfl rfl rfl rfl hb5
  try dsimp only [putL, setL, evL, getL]
  refine HL_cons rfl ?_
  refine o_pickT rfl hb5 ?_
  try dsimp only [putL, setL, evL, getL]
  refine HL_cons rfl ?_
  refine o_move ?_
  try dsimp only [putL, setL, evL, getL]
  refine HL_skip ?_ ?_
  ·exact wantF (j := 9) (b := false) (t := 12) (c := true) rfl rfl rfl rfl rfl
  try dsimp only [putL, setL, evL, getL]
  refine HL_skip ?_ ?_
  ·exact wantF (j := 9) (b := false) (t := 12) (c := true) rfl rfl rfl rfl rfl
  try dsimp only [putL, setL, evL, getL]
  refine HL_skip ?_ ?_
  ·exact wantF (j := 9) (b := false) (t := 12) (c := true) rfl rfl rfl rfl rfl
  try dsimp only [putL, setL, evL, getL]
  refine HL_skip ?_ ?_
  ·exact wantF (j := 9) (b := false) (t := 12) (c := true) rfl rfl rfl rfl rfl
  try dsimp only [putL, setL, evL, getL]
  refine HL_skip ?_ ?_
  ·exact wantU (j := 13) (b := true) (t := 16) rfl rfl rfl rfl
  try dsimp only [putL, setL, evL, getL]
  refine HL_skip ?_ ?_
  ·exact wantU (j := 13) (b := true) (t := 16) rfl rfl rfl rfl
  try dsimp only [putL, setL, evL, getL]
  refine HL_skip ?_ ?_
  ·exact wantU (j := 13) (b := true) (t := 16) rfl rfl rfl rfl
  try dsimp only [putL, setL, evL, getL]
  refine HL_skip ?_ ?_
  ·exact wantU (j := 13) (b := true) (t := 16) rfl rfl rfl rfl
  try dsimp only [putL, setL, evL, getL]
  refine HL_skip ?_ ?_
  ·exact wantF (j := 9) (b := false) (t := 12) (c := true) rfl rfl rfl rfl rfl
  try dsimp only [putL, setL, evL, getL]
  refine HL_cons rfl ?_
  refine o_pickT rfl rfl ?_
  try dsimp only [putL, setL, evL, getL]
  refine HL_cons rfl ?_
  refine o_assign ?_
  try dsimp only [putL, setL, evL, getL]
  refine HL_nil ?_
  refine hK3 _ _ ?_
  refine HT_ret ?_
  exact hQr _ _ [.bool true] ⟨rfl, trivial⟩ (retH (fun r => impl_GoodRe_1.post sb s F0 r _ _) (show some _ = some r from H) ⟨rfl, hH.sel [] (by decide)⟩)
 ·replace H := iteF hb5 H
  refine HL_want ?_ ?_
  ·exact wantT (j := 4) (b := false) (t := 7) (c := !u4) rfl rfl rfl rfl hb5
  refine o_faddr' (ft := 24) (off := 1) rfl Try.underlying139 rfl tI24 (by decide) ?_
  try dsimp only [putL, setL, evL, getL]
  refine HL_want ?_ ?_
  ·exact wantT (j := 4) (b := false) (t := 7) (c := !u4) rfl rfl rfl rfl hb5
  refine o_load' rfl Try.underlying24 rfl (hH.hasv 0 rfl rfl) ?_
  try dsimp only [putL, setL, evL, getL]
  replace H := headE H
  obtain ⟨u6, hu6, H⟩ := H
  refine HL_want ?_ ?_
  ·exact wantT (j := 4) (b := false) (t := 7) (c := !u4) rfl rfl rfl rfl hb5
  refine o_call (args := #[.slice A0_1p p0_1.length c0_1p, .func (.func 193) #[] #[]]) Try.func114 rfl rfl rfl (slices_ContainsFunc_int_int_impl_GoodRe_1_1.ok sb s4 no A0_1p c0_1p p0_1 HRp0_1 (Hp.own hH.bs) _ hu6) ?_
  rintro _ s6 ⟨rfl, hD⟩
  replace hH := hH.back0 hD (Up.refl _ _ _)
  clear hD
  dsimp only [addC, setC, rmC, selC, getC] at hH
  try dsimp only [putL, setL, evL, getL]
  refine HL_cons rfl ?_
  refine o_pickF rfl hb5 ?_
  try dsimp only [putL, setL, evL, getL]
  refine HL_cons rfl ?_
  refine o_move ?_
  try dsimp only [putL, setL, evL, getL]
  rcases Bool.eq_false_or_eq_true u6 with hb7 | hb7
  ·replace H := iteT hb7 H
   refine HL_skip ?_ ?_
   ·exact wantF (j := 9) (b := false) (t := 12) (c := u6) rfl rfl rfl rfl hb7
   try dsimp only [putL, setL, evL, getL]
   refine HL_skip ?_ ?_
   ·exact wantF (j := 9) (b := false) (t := 12) (c := u6) rfl rfl rfl rfl hb7
   try dsimp only [putL, setL, evL, getL]
   refine HL_skip ?_ ?_
   ·exact wantF (j := 9) (b := false) (t := 12) (c := u6) rfl rfl rfl rfl hb7
   try dsimp only [putL, setL, evL, getL]
   refine HL_skip ?_ ?_
   ·exact wantF (j := 9) (b := false) (t := 12) (c := u6) rfl rfl rfl rfl hb7
   try dsimp only [putL, setL, evL, getL]
   refine HL_skip ?_ ?_
   ·exact wantU (j := 13) (b := true) (t := 16) rfl rfl rfl rfl
   try dsimp only [putL, setL, evL, getL]
   refine HL_skip ?_ ?_
   ·exact wantU (j := 13) (b := true) (t := 16) rfl rfl rfl rfl
   try dsimp only [putL, setL, evL, getL]
   refine HL_skip ?_ ?_
   ·exact wantU (j := 13) (b := true) (t := 16) rfl rfl rfl rfl
   try dsimp only [putL, setL, evL, getL]
   refine HL_skip ?_ ?_
   ·exact wantU (j := 13) (b := true) (t := 16) rfl rfl rfl rfl
   try dsimp only [putL, setL, evL, getL]
   refine HL_skip ?_ ?_
   ·exact wantF (j := 9) (b := false) (t := 12) (c := u6) rfl rfl rfl rfl hb7
   try dsimp only [putL, setL, evL, getL]
   refine HL_cons rfl ?_
   refine o_pickT rfl hb7 ?_
   try dsimp only [putL, setL, evL, getL]
   refine HL_cons rfl ?_
   refine o_assign ?_
   try dsimp only [putL, setL, evL, getL]
   refine HL_nil ?_
   refine hK3 _ _ ?_
   refine HT_ret ?_
   exact hQr _ _ [.bool true] ⟨rfl, trivial⟩ (retH (fun r => impl_GoodRe_1.post sb s F0 r _ _) (show some _ = some r from H) ⟨rfl, hH.sel [] (by decide)⟩)
  ·replace H := iteF hb7 H
   refine HL_want ?_ ?_
   ·exact wantT (j := 9) (b := false) (t := 12) (c := u6) rfl rfl rfl rfl hb7
   refine o_faddr' (ft := 3) (off := 0) rfl Try.underlying139 rfl tI3 (by decide) ?_
   try dsimp only [putL, setL, evL, getL]
   refine HL_want ?_ ?_
   ·exact wantT (j := 9) (b := false) (t := 12) (c := u6) rfl rfl rfl rfl hb7
   refine o_load' rfl Try.underlying3 rfl (hH.hasv 0 rfl rfl) ?_
   try dsimp only [putL, setL, evL, getL]
   refine HL_want ?_ ?_
   ·exact wantT (j := 9) (b := false) (t := 12) (c := u6) rfl rfl rfl rfl hb7
   refine o_bin rfl rfl rfl ?_
   try dsimp only [putL, setL, evL, getL]
   refine HL_want ?_ ?_
   ·exact wantT (j := 9) (b := false) (t := 12) (c := u6) rfl rfl rfl rfl hb7
   refine o_move ?_
   try dsimp only [putL, setL, evL, getL]
   rcases Bool.eq_false_or_eq_true (p0_0 != 2) with hb8 | hb8
   ·replace H := iteT hb8 H
    refine HL_want ?_ ?_
    ·exact wantT (j := 13) (b := true) (t := 16) (c := p0_0 != 2) rfl rfl rfl rfl hb8
    refine o_faddr' (ft := 24) (off := 1) rfl Try.underlying139 rfl tI24 (by decide) ?_
    try dsimp only [putL, setL, evL, getL]
    refine HL_want ?_ ?_
    ·exact wantT (j := 13) (b := true) (t := 16) (c := p0_0 != 2) rfl rfl rfl rfl hb8
    refine o_load' rfl Try.underlying24 rfl (hH.hasv 0 rfl rfl) ?_
    try dsimp only [putL, setL, evL, getL]
    refine HL_want ?_ ?_
    ·exact wantT (j := 13) (b := true) (t := 16) (c := p0_0 != 2) rfl rfl rfl rfl hb8
    refine o_len rfl Try.underlying24 ?_
    try dsimp only [putL, setL, evL, getL]
    refine HL_want ?_ ?_
    ·exact wantT (j := 13) (b := true) (t := 16) (c := p0_0 != 2) rfl rfl rfl rfl hb8
    refine o_bin rfl rfl rfl ?_
    try dsimp only [putL, setL, evL, getL]
    refine HL_want ?_ ?_
    ·exact wantT (j := 9) (b := false) (t := 12) (c := u6) rfl rfl rfl rfl hb7
    refine o_pickT rfl hb8 ?_
    try dsimp only [putL, setL, evL, getL]
    refine HL_cons rfl ?_
    refine o_pickF rfl hb7 ?_
    try dsimp only [putL, setL, evL, getL]
    refine HL_cons rfl ?_
    refine o_assign ?_
    try dsimp only [putL, setL, evL, getL]
    refine HL_nil ?_
    refine hK3 _ _ ?_
    refine HT_ret ?_
    exact hQr _ _ [.bool (decide ((p0_1.length : Int) > 0))] ⟨rfl, trivial⟩ (retH (fun r => impl_GoodRe_1.post sb s F0 r _ _) (show some _ = some r from H) ⟨rfl, hH.sel [] (by decide)⟩)
   ·replace H := iteF hb8 H
    refine HL_skip ?_ ?_
    ·exact wantF (j := 13) (b := true) (t := 16) (c := p0_0 != 2) rfl rfl rfl rfl hb8
    try dsimp only [putL, setL, evL, getL]
    refine HL_skip ?_ ?_
    ·exact wantF (j := 13) (b := true) (t := 16) (c := p0_0 != 2) rfl rfl rfl rfl hb8
    try dsimp only [putL, setL, evL, getL]
    refine HL_skip ?_ ?_
    ·exact wantF (j := 13) (b := true) (t := 16) (c := p0_0 != 2) rfl rfl rfl rfl hb8
    try dsimp only [putL, setL, evL, getL]
    refine HL_skip ?_ ?_
    ·exact wantF (j := 13) (b := true) (t := 16) (c := p0_0 != 2) rfl rfl rfl rfl hb8
    try dsimp only [putL, setL, evL, getL]
    refine HL_want ?_ ?_
    ·exact wantT (j := 9) (b := false) (t := 12) (c := u6) rfl rfl rfl rfl hb7
    refine o_pickF rfl hb8 ?_
    try dsimp only [putL, setL, evL, getL]
    refine HL_cons rfl ?_
    refine o_pickF rfl hb7 ?_
    try dsimp only [putL, setL, evL, getL]
    refine HL_cons rfl ?_
    refine o_assign ?_
    try dsimp only [putL, setL, evL, getL]
    refine HL_nil ?_
    refine hK3 _ _ ?_
    refine HT_ret ?_
    exact hQr _ _ [.bool false] ⟨rfl, trivial⟩ (retH (fun r => impl_GoodRe_1.post sb s F0 r _ _) (show some _ = some r from H) ⟨rfl, hH.sel [] (by decide)⟩)
def slices_IndexFunc_impl_Re_impl_Re_impl_GoodRe_1.l1 (p0 : List ((Int) × (List (Int)))) : Nat → Int → Option (Lo Unit Int)
 | 0, _ => none
 | kf + 1, x52 => if (decide (x52 < (p0.length : Int))) = true then ((rd? p0 x52).bind fun u72 => (impl_GoodRe_1.f u72.1 u72.2).bind fun u74 => if u74 = true then ((some x52).bind fun z => some (Lo.ret z)) else (slices_IndexFunc_impl_Re_impl_Re_impl_GoodRe_1.l1 p0 kf (IntKind.i64.wrap (x52 + 1)))) else (some (Lo.go ()))
def slices_IndexFunc_impl_Re_impl_Re_impl_GoodRe_1.f (p0 : List ((Int) × (List (Int)))) : Option Int := (slices_IndexFunc_impl_Re_impl_Re_impl_GoodRe_1.l1 p0 ((((p0.length : Int)) - (0)).toNat + 2) 0).bind fun (o : Lo Unit Int) => match o with | .go () => (some (-1)) | .ret z => some z
def slices_IndexFunc_impl_Re_impl_Re_impl_GoodRe_1.post (sb s : St) (F0 : Fp) (r : Int) : Value → St → Prop := fun v s' => v = .int .i64 r ∧ Hp sb s F0 s' []
set_option maxRecDepth 100000 in
set_option maxHeartbeats 4000000 in
theorem slices_IndexFunc_impl_Re_impl_Re_impl_GoodRe_1.ok (sb s : St) (F0 : Fp) (A0p : Option Addr) (c0p : Nat) (p0 : List ((Int) × (List (Int)))) (HRp0 : Rd KS139 sb A0p c0p p0) (hH : Hp sb s F0 s []) (r : Int) (H : slices_IndexFunc_impl_Re_impl_Re_impl_GoodRe_1.f p0 = some r) : GCall Try.prog 221 #[.slice A0p p0.length c0p, .func (.func 191) #[] #[]] s (slices_IndexFunc_impl_Re_impl_Re_impl_GoodRe_1.post sb s F0 r) := by
 refine GCall_ofk [.tmp 4] [.slice A0p p0.length c0p, .func (.func 191) #[] #[], undef, undef, undef, undef, undef, undef, undef, undef, undef, undef, undef, undef, undef, undef, undef, undef, undef] Try.func221 rfl rfl rfl ?_
 intro w Q hQr hQn hQp
 replace H := topE H
 unfold slices_IndexFunc_impl_Re_impl_Re_impl_GoodRe_1.f at H
 refine HT_seq_k ?_
 intro K1 hK1
 refine HT_region ?_
 refine HL_cons rfl ?_
 refine o_assign ?_
 try dsimp only [putL, setL, evL, getL]
 refine HL_nil ?_
 refine hK1 _ _ ?_
 refine HT_seq_k ?_
 intro K2 hK2
 refine HT_seq_k ?_
 intro K3 hK3
 refine HT_region ?_
 refine HL_cons rfl ?_
 refine o_move ?_
 try dsimp only [putL, setL, evL, getL]
 refine HL_cons rfl ?_
 refine o_len rfl Try.underlying57 ?_
 try dsimp only [putL, setL, evL, getL]
 refine HL_cons rfl ?_
 refine o_move ?_
 try dsimp only [putL, setL, evL, getL]
 refine HL_nil ?_
 refine hK3 _ _ ?_
 refine joinH H fun G4 hG4 H => ?_
 refine HT_toK (fun l' s' => G4 (.go ()) = some r ∧ l' = [.slice A0p p0.length c0p, .func (.func 191) #[] #[], undef, undef, getL l' 4, getL l' 5, .slice A0p p0.length c0p, .int .i64 (p0.length : Int), getL l' 8, getL l' 9, getL l' 10, getL l' 11, getL l' 12, getL l' 13, getL l' 14, getL l' 15, getL l' 16, getL l' 17, getL l' 18] ∧ Hp sb s F0 s' []) ?_ ?_
 ·intro K4 hK4
  refine HT_block ?_
  refine HT_loopK (fun kf l' s' => ∃ (x52 : Int), (slices_IndexFunc_impl_Re_impl_Re_impl_GoodRe_1.l1 p0 kf x52).bind G4 = some r ∧ l' = [.slice A0p p0.length c0p, .func (.func 191) #[] #[], undef, undef, getL l' 4, getL l' 5, .slice A0p p0.length c0p, .int .i64 (p0.length : Int), .int .i64 x52, getL l' 9, getL l' 10, getL l' 11, getL l' 12, getL l' 13, getL l' 14, getL l' 15, getL l' 16, getL l' 17, getL l' 18] ∧ Hp sb s F0 s' []) ((((p0.length : Int)) - (0)).toNat + 2) ⟨0, H, rfl, hH⟩ ?_
  rintro kf l' s65 ⟨x52, H, hl, hH⟩ K65 hK65
  generalize getL l' 4 = j4, getL l' 5 = j5, getL l' 9 = j9, getL l' 10 = j10, getL l' 11 = j11, getL l' 12 = j12, getL l' 13 = j13, getL l' 14 = j14, getL l' 15 = j15, getL l' 16 = j16, getL l' 17 = j17, getL l' 18 = j18 at hl
  subst hl
  cases kf with
  | zero => simp [slices_IndexFunc_impl_Re_impl_Re_impl_GoodRe_1.l1] at H
  | succ kf =>
   rw [slices_IndexFunc_impl_Re_impl_Re_impl_GoodRe_1.l1] at H
   refine HT_seq_k ?_
   intro K66 hK66
   refine HT_region ?_
   refine HL_cons rfl ?_
   refine o_bin rfl rfl rfl ?_
   try dsimp only [putL, setL, evL, getL]
   refine HL_nil ?_
   refine hK66 _ _ ?_
   refine HT_seq_k ?_
   intro K67 hK67
   rcases Bool.eq_false_or_eq_true (decide (x52 < (p0.length : Int))) with hb68 | hb68
   ·replace H := iteT hb68 H
    refine HT_true (congrArg Value.bool hb68) ?_
    refine HT_skip ?_
    refine hK67 _ _ ?_
    refine HT_seq_k ?_
    intro K69 hK69
    refine HT_block ?_
    refine HT_seq_k ?_
    intro K70 hK70
    refine HT_region ?_
    refine HL_cons rfl ?_
    refine o_move ?_
    try dsimp only [putL, setL, evL, getL]
    refine HL_cons rfl ?_
    refine o_assign ?_
    try dsimp only [putL, setL, evL, getL]
    refine HL_nil ?_
    refine hK70 _ _ ?_
    refine HT_seq_k ?_
    intro K71 hK71
    refine HT_region ?_
    refine HL_cons rfl ?_
    refine o_move ?_
    try dsimp only [putL, setL, evL, getL]
    refine HL_cons rfl ?_
    refine o_move ?_
    try dsimp only [putL, setL, evL, getL]
    refine HL_cons rfl ?_
    refine o_move ?_
    try dsimp only [putL, setL, evL, getL]
    replace H := headE H
    obtain ⟨u72, hu72, H⟩ := H
    obtain ⟨b72, o72, cs72, hr72, hh72, hel72⟩ := Rd.elb HRp0 hu72
    obtain ⟨_, _, rfl, rfl, ⟨A73, c73, rfl, D73⟩⟩ := hr72
    refine HL_cons rfl ?_
    refine hel72 s65 rfl rfl Try.underlying57 tI139 ?_
    try dsimp only [putL, setL, evL, getL]
    refine HL_cons rfl ?_
    refine o_loads' [.int .i64 u72.1, .slice A73 u72.2.length c73] rfl Try.underlying139 rfl tI139 rfl (fun j v hj => (hh72 hH.bs.mono) j v hj) ?_
    try dsimp only [putL, setL, evL, getL]
    replace H := headE H
    obtain ⟨u74, hu74, H⟩ := H
    refine HL_cons rfl ?_
    refine o_callv (first := #[]) (cap := #[]) (args := #[.agg #[.int .i64 u72.1, .slice A73 u72.2.length c73]]) rfl Try.func191 rfl rfl [.agg #[.int .i64 u72.1, .slice A73 u72.2.length c73]] rfl (by simp) (impl_GoodRe_1.ok sb s65 no u72.1 A73 c73 u72.2 D73 (Hp.own hH.bs) _ hu74) ?_
    rintro _ s74 ⟨rfl, hD⟩
    replace hH := hH.back0 hD (Up.refl _ _ _)
    clear hD
    dsimp only [addC, setC, rmC, selC, getC] at hH
    try dsimp only [putL, setL, evL, getL]
    refine HL_nil ?_
    refine hK71 _ _ ?_
    rcases Bool.eq_false_or_eq_true u74 with hb75 | hb75
    ·replace H := iteT hb75 H
     refine HT_true (congrArg Value.bool hb75) ?_
     refine HT_seq_k ?_
     intro K76 hK76
     refine HT_region ?_
     refine HL_cons rfl ?_
     refine o_move ?_
     try dsimp only [putL, setL, evL, getL]
     refine HL_cons rfl ?_
     refine o_assign ?_
     try dsimp only [putL, setL, evL, getL]
     refine HL_nil ?_
     refine hK76 _ _ ?_
     refine HT_ret ?_
     replace H := escH (fun z hz => hG4 _ hz) H
     exact hQr _ _ [.int .i64 x52] ⟨rfl, trivial⟩ (retH (fun r => slices_IndexFunc_impl_Re_impl_Re_impl_GoodRe_1.post sb s F0 r _ _) (show some _ = some r from H) ⟨rfl, hH⟩)
    ·replace H := iteF hb75 H
     refine HT_false (congrArg Value.bool hb75) ?_
     refine HT_skip ?_
     refine hK69 _ _ ?_
     refine HT_region ?_
     refine HL_cons rfl ?_
     refine o_bin rfl rfl rfl ?_
     try dsimp only [putL, setL, evL, getL]
     refine HL_cons rfl ?_
     refine o_move ?_
     try dsimp only [putL, setL, evL, getL]
     refine HL_nil ?_
     exact hK65 _ _ ⟨kf, Nat.lt_succ_self kf, IntKind.i64.wrap (x52 + 1), H, rfl, hH⟩
   ·replace H := iteF hb68 H
    refine HT_false (congrArg Value.bool hb68) ?_
    refine HT_exit ?_
    exact hK4 _ _ ⟨H, rfl, hH⟩
 ·rintro l' s77 ⟨H, hl, hH⟩
  generalize getL l' 4 = j4, getL l' 5 = j5, getL l' 8 = j8, getL l' 9 = j9, getL l' 10 = j10, getL l' 11 = j11, getL l' 12 = j12, getL l' 13 = j13, getL l' 14 = j14, getL l' 15 = j15, getL l' 16 = j16, getL l' 17 = j17, getL l' 18 = j18 at hl
  subst hl
  replace H := hG4 _ H
  try dsimp only at H
  refine hK2 _ _ ?_
  refine HT_seq_k ?_
  intro K78 hK78
  refine HT_region ?_
  refine HL_cons rfl ?_
  refine o_assign ?_
  try dsimp only [putL, setL, evL, getL]
  refine HL_nil ?_
  refine hK78 _ _ ?_
  refine HT_ret ?_
  exact hQr _ _ [.int .i64 (-1)] ⟨rfl, trivial⟩ (retH (fun r => slices_IndexFunc_impl_Re_impl_Re_impl_GoodRe_1.post sb s F0 r _ _) (show some _ = some r from H) ⟨rfl, hH⟩)
def slices_ContainsFunc_impl_Re_impl_Re_impl_GoodRe_1.f (p0 : List ((Int) × (List (Int)))) : Option Bool := (slices_IndexFunc_impl_Re_impl_Re_impl_GoodRe_1.f p0).bind fun u3 => some (decide (u3 ≥ 0))
def slices_ContainsFunc_impl_Re_impl_Re_impl_GoodRe_1.post (sb s : St) (F0 : Fp) (r : Bool) : Value → St → Prop := fun v s' => v = .bool r ∧ Hp sb s F0 s' []
set_option maxRecDepth 100000 in
set_option maxHeartbeats 4000000 in
theorem slices_ContainsFunc_impl_Re_impl_Re_impl_GoodRe_1.ok (sb s : St) (F0 : Fp) (A0p : Option Addr) (c0p : Nat) (p0 : List ((Int) × (List (Int)))) (HRp0 : Rd KS139 sb A0p c0p p0) (hH : Hp sb s F0 s []) (r : Bool) (H : slices_ContainsFunc_impl_Re_impl_Re_impl_GoodRe_1.f p0 = some r) : GCall Try.prog 190 #[.slice A0p p0.length c0p, .func (.func 191) #[] #[]] s (slices_ContainsFunc_impl_Re_impl_Re_impl_GoodRe_1.post sb s F0 r) := by
 refine GCall_ofk [.tmp 4] [.slice A0p p0.length c0p, .func (.func 191) #[] #[], undef, undef, undef, undef, undef, undef, undef] Try.func190 rfl rfl rfl ?_
 intro w Q hQr hQn hQp
 replace H := topE H
 unfold slices_ContainsFunc_impl_Re_impl_Re_impl_GoodRe_1.f at H
 refine HT_seq_k ?_
 intro K1 hK1
 refine HT_region ?_
 refine HL_cons rfl ?_
 refine o_assign ?_
 try dsimp only [putL, setL, evL, getL]
 refine HL_nil ?_
 refine hK1 _ _ ?_
 refine HT_seq_k ?_
 intro K2 hK2
 refine HT_region ?_
 refine HL_cons rfl ?_
 refine o_move ?_
 try dsimp only [putL, setL, evL, getL]
 refine HL_cons rfl ?_
 refine o_move ?_
 try dsimp only [putL, setL, evL, getL]
 replace H := headE H
 obtain ⟨u3, hu3, H⟩ := H
 refine HL_cons rfl ?_
 refine o_call (args := #[.slice A0p p0.length c0p, .func (.func 191) #[] #[]]) Try.func221 rfl rfl rfl (slices_IndexFunc_impl_Re_impl_Re_impl_GoodRe_1.ok sb s no A0p c0p p0 HRp0 (Hp.own hH.bs) _ hu3) ?_
 rintro _ s3 ⟨rfl, hD⟩
 replace hH := hH.back0 hD (Up.refl _ _ _)
 clear hD
 dsimp only [addC, setC, rmC, selC, getC] at hH
 try dsimp only [putL, setL, evL, getL]
 refine HL_cons rfl ?_
 refine o_bin rfl rfl rfl ?_
 try dsimp only [putL, setL, evL, getL]
 refine HL_cons rfl ?_
 refine o_assign ?_
 try dsimp only [putL, setL, evL, getL]
 refine HL_nil ?_
 refine hK2 _ _ ?_
 refine HT_ret ?_
 exact hQr _ _ [.bool (decide (u3 ≥ 0))] ⟨rfl, trivial⟩ (retH (fun r => slices_ContainsFunc_impl_Re_impl_Re_impl_GoodRe_1.post sb s F0 r _ _) (show some _ = some r from H) ⟨rfl, hH⟩)
def impl_partsOf.f (p0 : Int) : Option Int := (if (p0 == 1) = true then (some (p0 == 1)) else (some (p0 == 2))).bind fun (o : Bool) => match o with | x40 => (if x40 = true then (some 0) else ((if (p0 == 6) = true then (some (p0 == 6)) else (some (p0 == 7))).bind fun (o : Bool) => match o with | x49 => (if x49 = true then (some 1) else ((if (p0 == 3) = true then (some (p0 == 3)) else (if (p0 == 4) = true then (some (p0 == 4)) else (some (p0 == 5)))).bind fun (o : Bool) => match o with | x60 => (if x60 = true then (some 2) else (some (-1)))))))
def impl_partsOf.post (sb s : St) (F0 : Fp) (r : Int) : Value → St → Prop := fun v s' => v = .int .i64 r ∧ Hp sb s F0 s' []
set_option maxRecDepth 100000 in
set_option maxHeartbeats 4000000 in
theorem impl_partsOf.ok (sb s : St) (F0 : Fp) (p0 : Int) (hH : Hp sb s F0 s []) (r : Int) (H : impl_partsOf.f p0 = some r) : GCall Try.prog 203 #[.int .i64 p0] s (impl_partsOf.post sb s F0 r) := by
 refine GCall_ofk [.tmp 2] [.int .i64 p0, undef, undef, undef, undef, undef, undef, undef, undef, undef, undef, undef, undef, undef] Try.func203 rfl rfl rfl ?_
 intro w Q hQr hQn hQp
 replace H := topE H
 unfold impl_partsOf.f at H
 refine HT_seq_k ?_
 intro K1 hK1
 refine HT_region ?_
 refine HL_cons rfl ?_
 refine o_assign ?_
 try dsimp only [putL, setL, evL, getL]
 refine HL_nil ?_
 refine hK1 _ _ ?_
 refine HT_seq_k ?_
 intro K35 hK35
 refine HT_seq_k ?_
 intro K36 hK36
 refine HT_region ?_
 refine HL_cons rfl ?_
 refine o_move ?_
 try dsimp only [putL, setL, evL, getL]
 refine HL_nil ?_
 refine hK36 _ _ ?_
 refine HT_block ?_
 refine joinH H fun G37 hG37 H => ?_
 refine HT_joinK (fun l' s' => ∃ (x40 : Bool), G37 x40 = some r ∧ l' = [.int .i64 p0, undef, .int .i64 0, .int .i64 p0, .bool x40, getL l' 5, getL l' 6, undef, undef, undef, undef, undef, undef, undef] ∧ Hp sb s F0 s' []) ?_ ?_
 ·intro K37 hK37
  refine HT_seq_k ?_
  intro K41 hK41
  refine HT_region ?_
  refine HL_cons rfl ?_
  refine o_bin rfl rfl rfl ?_
  try dsimp only [putL, setL, evL, getL]
  refine HL_cons rfl ?_
  refine o_assign ?_
  try dsimp only [putL, setL, evL, getL]
  refine HL_nil ?_
  refine hK41 _ _ ?_
  rcases Bool.eq_false_or_eq_true (p0 == 1) with hb42 | hb42
  ·replace H := iteT hb42 H
   refine HT_true (congrArg Value.bool hb42) ?_
   refine HT_skip ?_
   exact hK37 _ _ ⟨p0 == 1, H, rfl, hH⟩
  ·replace H := iteF hb42 H
   refine HT_false (congrArg Value.bool hb42) ?_
   refine HT_region ?_
   refine HL_cons rfl ?_
   refine o_bin rfl rfl rfl ?_
   try dsimp only [putL, setL, evL, getL]
   refine HL_cons rfl ?_
   refine o_assign ?_
   try dsimp only [putL, setL, evL, getL]
   refine HL_nil ?_
   exact hK37 _ _ ⟨p0 == 2, H, rfl, hH⟩
 ·rintro l' s43 ⟨x40, H, hl, hH⟩
  generalize getL l' 5 = j5, getL l' 6 = j6 at hl
  subst hl
  replace H := hG37 _ H
  try dsimp only at H
  rcases Bool.eq_false_or_eq_true x40 with hb44 | hb44
  ·replace H := iteT hb44 H
   refine HT_true (congrArg Value.bool hb44) ?_
   refine HT_seq_k ?_
   intro K45 hK45
   refine HT_region ?_
   refine HL_cons rfl ?_
   refine o_assign ?_
   try dsimp only [putL, setL, evL, getL]
   refine HL_nil ?_
   refine hK45 _ _ ?_
   refine HT_ret ?_
   exact hQr _ _ [.int .i64 0] ⟨rfl, trivial⟩ (retH (fun r => impl_partsOf.post sb s F0 r _ _) (show some _ = some r from H) ⟨rfl, hH⟩)
  ·replace H := iteF hb44 H
   refine HT_false (congrArg Value.bool hb44) ?_
   refine joinH H fun G46 hG46 H => ?_
   refine HT_joinK (fun l' s' => ∃ (x49 : Bool), G46 x49 = some r ∧ l' = [.int .i64 p0, undef, .int .i64 0, .int .i64 p0, .bool x40, j5, j6, .bool x49, getL l' 8, getL l' 9, undef, undef, undef, undef] ∧ Hp sb s F0 s' []) ?_ ?_
   ·intro K46 hK46
    refine HT_seq_k ?_
    intro K50 hK50
    refine HT_region ?_
    refine HL_cons rfl ?_
    refine o_bin rfl rfl rfl ?_
    try dsimp only [putL, setL, evL, getL]
    refine HL_cons rfl ?_
    refine o_assign ?_
    try dsimp only [putL, setL, evL, getL]
    refine HL_nil ?_
    refine hK50 _ _ ?_
    rcases Bool.eq_false_or_eq_true (p0 == 6) with hb51 | hb51
    ·replace H := iteT hb51 H
     refine HT_true (congrArg Value.bool hb51) ?_
     refine HT_skip ?_
     exact hK46 _ _ ⟨p0 == 6, H, rfl, hH⟩
    ·replace H := iteF hb51 H
     refine HT_false (congrArg Value.bool hb51) ?_
     refine HT_region ?_
     refine HL_cons rfl ?_
     refine o_bin rfl rfl rfl ?_
     try dsimp only [putL, setL, evL, getL]
     refine HL_cons rfl ?_
     refine o_assign ?_
     try dsimp only [putL, setL, evL, getL]
     refine HL_nil ?_
     exact hK46 _ _ ⟨p0 == 7, H, rfl, hH⟩
   ·rintro l' s52 ⟨x49, H, hl, hH⟩
    generalize getL l' 8 = j8, getL l' 9 = j9 at hl
    subst hl
    replace H := hG46 _ H
    try dsimp only at H
    rcases Bool.eq_false_or_eq_true x49 with hb53 | hb53
    ·replace H := iteT hb53 H
     refine HT_true (congrArg Value.bool hb53) ?_
     refine HT_seq_k ?_
     intro K54 hK54
     refine HT_region ?_
     refine HL_cons rfl ?_
     refine o_assign ?_
     try dsimp only [putL, setL, evL, getL]
     refine HL_nil ?_
     refine hK54 _ _ ?_
     refine HT_ret ?_
     exact hQr _ _ [.int .i64 1] ⟨rfl, trivial⟩ (retH (fun r => impl_partsOf.post sb s F0 r _ _) (show some _ = some r from H) ⟨rfl, hH⟩)
    ·replace H := iteF hb53 H
     refine HT_false (congrArg Value.bool hb53) ?_
     refine joinH H fun G55 hG55 H => ?_
     refine HT_joinK (fun l' s' => ∃ (x60 : Bool), G55 x60 = some r ∧ l' = [.int .i64 p0, undef, .int .i64 0, .int .i64 p0, .bool x40, j5, j6, .bool x49, j8, j9, .bool x60, getL l' 11, getL l' 12, getL l' 13] ∧ Hp sb s F0 s' []) ?_ ?_
     ·intro K55 hK55
      refine HT_seq_k ?_
      intro K61 hK61
      refine HT_region ?_
      refine HL_cons rfl ?_
      refine o_bin rfl rfl rfl ?_
      try dsimp only [putL, setL, evL, getL]
      refine HL_cons rfl ?_
      refine o_assign ?_
      try dsimp only [putL, setL, evL, getL]
      refine HL_nil ?_
      refine hK61 _ _ ?_
      rcases Bool.eq_false_or_eq_true (p0 == 3) with hb62 | hb62
      ·replace H := iteT hb62 H
       refine HT_true (congrArg Value.bool hb62) ?_
       refine HT_skip ?_
       exact hK55 _ _ ⟨p0 == 3, H, rfl, hH⟩
      ·replace H := iteF hb62 H
       refine HT_false (congrArg Value.bool hb62) ?_
       refine HT_seq_k ?_
       intro K63 hK63
       refine HT_region ?_
       refine HL_cons rfl ?_
       refine o_bin rfl rfl rfl ?_
       try dsimp only [putL, setL, evL, getL]
       refine HL_cons rfl ?_
       refine o_assign ?_
       try dsimp only [putL, setL, evL, getL]
       refine HL_nil ?_
       refine hK63 _ _ ?_
       rcases Bool.eq_false_or_eq_true (p0 == 4) with hb64 | hb64
       ·replace H := iteT hb64 H
        refine HT_true (congrArg Value.bool hb64) ?_
        refine HT_skip ?_
        exact hK55 _ _ ⟨p0 == 4, H, rfl, hH⟩
       ·replace H := iteF hb64 H
        refine HT_false (congrArg Value.bool hb64) ?_
        refine HT_region ?_
        refine HL_cons rfl ?_
        refine o_bin rfl rfl rfl ?_
        try dsimp only [putL, setL, evL, getL]
        refine HL_cons rfl ?_
        refine o_assign ?_
        try dsimp only [putL, setL, evL, getL]
        refine HL_nil ?_
        exact hK55 _ _ ⟨p0 == 5, H, rfl, hH⟩
     ·rintro l' s65 ⟨x60, H, hl, hH⟩
      generalize getL l' 11 = j11, getL l' 12 = j12, getL l' 13 = j13 at hl
      subst hl
      replace H := hG55 _ H
      try dsimp only at H
      rcases Bool.eq_false_or_eq_true x60 with hb66 | hb66
      ·replace H := iteT hb66 H
       refine HT_true (congrArg Value.bool hb66) ?_
       refine HT_seq_k ?_
       intro K67 hK67
       refine HT_region ?_
       refine HL_cons rfl ?_
       refine o_assign ?_
       try dsimp only [putL, setL, evL, getL]
       refine HL_nil ?_
       refine hK67 _ _ ?_
       refine HT_ret ?_
       exact hQr _ _ [.int .i64 2] ⟨rfl, trivial⟩ (retH (fun r => impl_partsOf.post sb s F0 r _ _) (show some _ = some r from H) ⟨rfl, hH⟩)
      ·replace H := iteF hb66 H
       refine HT_false (congrArg Value.bool hb66) ?_
       refine HT_skip ?_
       refine hK35 _ _ ?_
       refine HT_seq_k ?_
       intro K68 hK68
       refine HT_region ?_
       refine HL_cons rfl ?_
       refine o_assign ?_
       try dsimp only [putL, setL, evL, getL]
       refine HL_nil ?_
       refine hK68 _ _ ?_
       refine HT_ret ?_
       exact hQr _ _ [.int .i64 (-1)] ⟨rfl, trivial⟩ (retH (fun r => impl_partsOf.post sb s F0 r _ _) (show some _ = some r from H) ⟨rfl, hH⟩)
end Go.Proofs.Ytkieinlcpkpcjaa
