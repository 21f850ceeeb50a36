/- The functions that the law reaches, as plain functions, each with its contract: printed by a program of the prover's. No conditions: lemmas. -/
import Derived.Test.YtkieinlcpkpcjaaWReplaceIn0
set_option linter.unusedVariables false
set_option linter.unusedSimpArgs false
namespace Go.Proofs.Ytkieinlcpkpcjaa
open Go Go.Proofs.GL
def spec_l5Cell.l1 (p1 : List (List (Bool))) (p2 : List (Bool)) (p3 : List (Int)) (p4 : Int) (p6 : Int) (p7 : Int) : Nat → Int → Option (Lo Unit (Lo Unit Bool))
 | 0, _ => none
 | kf + 1, x456 => if (decide (x456 ≤ p7)) = true then (((rd? p1 (IntKind.i64.wrap (p4 - 1))).bind fun u528 => (rd? u528 (IntKind.i64.wrap ((IntKind.i64.wrap (p6 * (IntKind.i64.wrap ((p3.length : Int) + 1)))) + x456))).bind fun u530 => if u530 = true then (if (x456 == p7) = true then (some true) else ((rd? p2 (IntKind.i64.wrap ((IntKind.i64.wrap (x456 * (IntKind.i64.wrap ((p3.length : Int) + 1)))) + p7))).bind fun u533 => some u533)) else (some false)).bind fun (o : Bool) => match o with | x527 => (if x527 = true then (((some true).bind fun z => some (Lo.ret z)).bind fun z => some (Lo.ret z)) else (spec_l5Cell.l1 p1 p2 p3 p4 p6 p7 kf (IntKind.i64.wrap (x456 + 1))))) else (some (Lo.go ()))
def spec_l5Cell.l2 (p3 : List (Int)) (p6 : Int) (p7 : Int) (u542 : List (Bool)) (u545 : List (Bool)) : Nat → Int → Option (Lo Unit Bool)
 | 0, _ => none
 | kf + 1, x675 => if (decide (x675 ≤ p7)) = true then (((rd? u542 (IntKind.i64.wrap ((IntKind.i64.wrap (p6 * (IntKind.i64.wrap ((p3.length : Int) + 1)))) + x675))).bind fun u726 => if u726 = true then ((rd? u545 (IntKind.i64.wrap ((IntKind.i64.wrap (x675 * (IntKind.i64.wrap ((p3.length : Int) + 1)))) + p7))).bind fun u728 => some u728) else (some false)).bind fun (o : Bool) => match o with | x725 => (if x725 = true then ((some true).bind fun z => some (Lo.ret z)) else (spec_l5Cell.l2 p3 p6 p7 u542 u545 kf (IntKind.i64.wrap (x675 + 1))))) else (some (Lo.go ()))
def spec_l5Cell.f (p0 : List ((Int) × (List (Int)))) (p1 : List (List (Bool))) (p2 : List (Bool)) (p3 : List (Int)) (p4 : Int) (p5_0 : Int) (p5_1 : List (Int)) (p6 : Int) (p7 : Int) : Option Bool := (if (p5_0 == 1) = true then ((some (p6 == p7)).bind fun z => some (Lo.ret z)) else (if (p5_0 == 2) = true then (if (p7 == (IntKind.i64.wrap (p6 + 1))) = true then ((rd? p3 p6).bind fun u280 => (spec_l4In.f p5_1 u280).bind fun u281 => (some u281).bind fun z => some (Lo.ret z)) else ((some false).bind fun z => some (Lo.ret z))) else (if (p5_0 == 7) = true then ((rd? p1 (IntKind.i64.wrap (p4 - 1))).bind fun u285 => (rd? u285 (IntKind.i64.wrap ((IntKind.i64.wrap (p6 * (IntKind.i64.wrap ((p3.length : Int) + 1)))) + p7))).bind fun u287 => (some (!u287)).bind fun z => some (Lo.ret z)) else (if (p5_0 == 6) = true then (if (p6 == p7) = true then ((some true).bind fun z => some (Lo.ret z)) else ((spec_l5Cell.l1 p1 p2 p3 p4 p6 p7 (((p7) - (IntKind.i64.wrap (p6 + 1))).toNat + 2) (IntKind.i64.wrap (p6 + 1))).bind fun (o : Lo Unit (Lo Unit Bool)) => match o with | .go () => ((some false).bind fun z => some (Lo.ret z)) | .ret z => some z)) else (some (Lo.go ())))))).bind fun (o : Lo Unit Bool) => match o with | .go () => ((spec_l5First.f p0 p4).bind fun u541 => (rd? p1 u541).bind fun u542 => (rd? p1 (IntKind.i64.wrap (p4 - 1))).bind fun u545 => if (p5_0 == 4) = true then ((rd? u542 (IntKind.i64.wrap ((IntKind.i64.wrap (p6 * (IntKind.i64.wrap ((p3.length : Int) + 1)))) + p7))).bind fun u552 => if u552 = true then (some true) else ((rd? u545 (IntKind.i64.wrap ((IntKind.i64.wrap (p6 * (IntKind.i64.wrap ((p3.length : Int) + 1)))) + p7))).bind fun u554 => some u554)) else (if (p5_0 == 5) = true then ((rd? u542 (IntKind.i64.wrap ((IntKind.i64.wrap (p6 * (IntKind.i64.wrap ((p3.length : Int) + 1)))) + p7))).bind fun u558 => if u558 = true then ((rd? u545 (IntKind.i64.wrap ((IntKind.i64.wrap (p6 * (IntKind.i64.wrap ((p3.length : Int) + 1)))) + p7))).bind fun u560 => some u560) else (some false)) else ((spec_l5Cell.l2 p3 p6 p7 u542 u545 (((p7) - (p6)).toNat + 2) p6).bind fun (o : Lo Unit Bool) => match o with | .go () => (some false) | .ret z => some z))) | .ret z => some z
def spec_l5Cell.post (sb s : St) (F0 : Fp) (r : Bool) : Value → St → Prop := fun v s' => v = .bool r ∧ Hp sb s F0 s' []
set_option maxRecDepth 100000 in
set_option maxHeartbeats 4000000 in
theorem spec_l5Cell.ok (sb s : St) (F0 : Fp) (A0p : Option Addr) (c0p : Nat) (p0 : List ((Int) × (List (Int)))) (A1p : Option Addr) (c1p : Nat) (p1 : List (List (Bool))) (A2p : Option Addr) (c2p : Nat) (p2 : List (Bool)) (A3p : Option Addr) (c3p : Nat) (p3 : List (Int)) (p4 : Int) (p5_0 : Int) (A5_1p : Option Addr) (c5_1p : Nat) (p5_1 : List (Int)) (p6 : Int) (p7 : Int) (HRp0 : Rd KS139 sb A0p c0p p0) (HRp1 : Rd (Kd.sl Kd.bool) sb A1p c1p p1) (HRp2 : Rd Kd.bool sb A2p c2p p2) (HRp3 : Rd KI sb A3p c3p p3) (HRp5_1 : Rd KI sb A5_1p c5_1p p5_1) (hH : Hp sb s F0 s []) (r : Bool) (H : spec_l5Cell.f p0 p1 p2 p3 p4 p5_0 p5_1 p6 p7 = some r) : GCall Try.prog 216 #[.slice A0p p0.length c0p, .slice A1p p1.length c1p, .slice A2p p2.length c2p, .slice A3p p3.length c3p, .int .i64 p4, .agg #[.int .i64 p5_0, .slice A5_1p p5_1.length c5_1p], .int .i64 p6, .int .i64 p7] s (spec_l5Cell.post sb s F0 r) := by
 refine GCall_ofk [.tmp 16] [.slice A0p p0.length c0p, .slice A1p p1.length c1p, .slice A2p p2.length c2p, .slice A3p p3.length c3p, .int .i64 p4, .agg #[.int .i64 p5_0, .slice A5_1p p5_1.length c5_1p], .int .i64 p6, .int .i64 p7, undef, undef, undef, undef, undef, undef, undef, undef, undef, undef, undef, undef, undef, undef, undef, undef, undef, undef, undef, undef, undef, undef, undef, undef, undef, undef, undef, undef, undef, undef, undef, undef, undef, undef, undef, undef, undef, undef, undef, undef, undef, undef, undef, undef, undef, undef, undef, undef, undef, undef, undef, undef, undef, undef, undef, undef, undef, undef, undef, undef, undef, undef, undef, undef, undef, undef, undef, undef, undef, undef, undef, undef, undef, undef, undef, undef, undef, undef, undef, undef, undef, undef, undef, undef, undef, undef, undef, undef, undef, undef, undef, undef, undef, undef, undef, undef, undef, undef, undef, undef, undef, undef, undef, undef, undef, undef, undef, undef, undef, undef, undef, undef, undef, undef, undef, undef, undef, undef, undef, undef, undef, undef, undef, undef, undef, undef, undef, undef, undef, undef, undef, undef, undef, undef, undef, undef, undef, undef, undef, undef, undef, undef, undef, undef, undef, undef, undef, undef, undef, undef, undef, undef, undef, undef, undef, undef, undef, undef, undef, undef, undef, undef, undef, undef, undef, undef, undef, undef, undef, undef] Try.func216 rfl rfl rfl ?_
 intro w Q hQr hQn hQp
 replace H := topE H
 unfold spec_l5Cell.f at H
 refine HT_seq_k ?_
 intro K1 hK1
 refine HT_region ?_
 refine HL_cons rfl ?_
 refine o_boxH hH rfl ?_
 intro b2 s2 hH' hG
 replace hH : Hp sb s F0 s2 [Ck.ov b2 [.int .i64 p5_0, .slice A5_1p p5_1.length c5_1p] 139] := hH'
 clear hH' hG
 try dsimp only [putL, setL, evL, getL]
 refine HL_cons rfl ?_
 refine o_assign ?_
 try dsimp only [putL, setL, evL, getL]
 refine HL_nil ?_
 refine hK1 _ _ ?_
 refine HT_seq_k ?_
 intro K3 hK3
 refine HT_region ?_
 refine HL_cons rfl ?_
 refine o_move ?_
 try dsimp only [putL, setL, evL, getL]
 refine HL_cons rfl ?_
 refine o_len rfl Try.underlying24 ?_
 try dsimp only [putL, setL, evL, getL]
 refine HL_cons rfl ?_
 refine o_bin rfl rfl rfl ?_
 try dsimp only [putL, setL, evL, getL]
 refine HL_cons rfl ?_
 refine o_assign ?_
 try dsimp only [putL, setL, evL, getL]
 refine HL_nil ?_
 refine hK3 _ _ ?_
 refine HT_seq_k ?_
 intro K4 hK4
 refine HT_seq_k ?_
 intro K5 hK5
 refine HT_region ?_
 refine HL_cons rfl ?_
 refine o_faddr' (ft := 3) (off := 0) rfl Try.underlying139 rfl tI3 (by decide) ?_
 try dsimp only [putL, setL, evL, getL]
 refine HL_cons rfl ?_
 refine o_load' rfl Try.underlying3 rfl (hH.hasv 0 rfl rfl) ?_
 try dsimp only [putL, setL, evL, getL]
 refine HL_nil ?_
 refine hK5 _ _ ?_
 refine joinH H fun G6 hG6 H => ?_
 refine HT_toK (fun l' s' => G6 (.go ()) = some r ∧ l' = [.slice A0p p0.length c0p, .slice A1p p1.length c1p, .slice A2p p2.length c2p, .slice A3p p3.length c3p, .int .i64 p4, .agg #[.int .i64 p5_0, .slice A5_1p p5_1.length c5_1p], .int .i64 p6, .int .i64 p7, undef, undef, undef, undef, undef, .pointer (some ⟨b2, 0, none⟩), undef, undef, getL l' 16, .int .i64 (IntKind.i64.wrap ((p3.length : Int) + 1)), getL l' 18, undef, undef, undef, .slice A3p p3.length c3p, .int .i64 (p3.length : Int), .int .i64 (IntKind.i64.wrap ((p3.length : Int) + 1)), .pointer (some ⟨b2, 0 + 0, none⟩), .int .i64 p5_0, getL l' 27, getL l' 28, getL l' 29, getL l' 30, getL l' 31, getL l' 32, getL l' 33, getL l' 34, getL l' 35, getL l' 36, getL l' 37, getL l' 38, getL l' 39, getL l' 40, getL l' 41, getL l' 42, getL l' 43, getL l' 44, getL l' 45, getL l' 46, getL l' 47, getL l' 48, getL l' 49, getL l' 50, getL l' 51, getL l' 52, getL l' 53, getL l' 54, getL l' 55, getL l' 56, getL l' 57, getL l' 58, getL l' 59, getL l' 60, getL l' 61, getL l' 62, getL l' 63, getL l' 64, getL l' 65, getL l' 66, getL l' 67, getL l' 68, getL l' 69, getL l' 70, getL l' 71, getL l' 72, getL l' 73, getL l' 74, getL l' 75, getL l' 76, getL l' 77, getL l' 78, getL l' 79, getL l' 80, getL l' 81, getL l' 82, getL l' 83, getL l' 84, getL l' 85, getL l' 86, getL l' 87, getL l' 88, getL l' 89, getL l' 90, getL l' 91, getL l' 92, getL l' 93, getL l' 94, getL l' 95, getL l' 96, getL l' 97, getL l' 98, getL l' 99, getL l' 100, undef, undef, undef, undef, undef, undef, undef, undef, undef, undef, undef, undef, undef, undef, undef, undef, undef, undef, undef, undef, undef, undef, undef, undef, undef, undef, undef, undef, undef, undef, undef, undef, undef, undef, undef, undef, undef, undef, undef, undef, undef, undef, undef, undef, undef, undef, undef, undef, undef, undef, undef, undef, undef, undef, undef, undef, undef, undef, undef, undef, undef, undef, undef, undef, undef, undef, undef, undef, undef, undef, undef, undef, undef, undef, undef, undef, undef] ∧ Hp sb s F0 s' [Ck.ov b2 [.int .i64 p5_0, .slice A5_1p p5_1.length c5_1p] 139]) ?_ ?_
 ·intro K6 hK6
  refine HT_block ?_
  refine HT_seq_k ?_
  intro K273 hK273
  refine HT_region ?_
  refine HL_cons rfl ?_
  refine o_bin rfl rfl rfl ?_
  try dsimp only [putL, setL, evL, getL]
  refine HL_cons rfl ?_
  refine o_assign ?_
  try dsimp only [putL, setL, evL, getL]
  refine HL_nil ?_
  refine hK273 _ _ ?_
  rcases Bool.eq_false_or_eq_true (p5_0 == 1) with hb274 | hb274
  ·replace H := iteT hb274 H
   refine HT_true (congrArg Value.bool hb274) ?_
   refine HT_seq_k ?_
   intro K275 hK275
   refine HT_region ?_
   refine HL_cons rfl ?_
   refine o_move ?_
   try dsimp only [putL, setL, evL, getL]
   refine HL_cons rfl ?_
   refine o_move ?_
   try dsimp only [putL, setL, evL, getL]
   refine HL_cons rfl ?_
   refine o_bin rfl rfl rfl ?_
   try dsimp only [putL, setL, evL, getL]
   refine HL_cons rfl ?_
   refine o_assign ?_
   try dsimp only [putL, setL, evL, getL]
   refine HL_nil ?_
   refine hK275 _ _ ?_
   refine HT_ret ?_
   replace H := escH (fun z hz => hG6 _ hz) H
   exact hQr _ _ [.bool (p6 == p7)] ⟨rfl, trivial⟩ (retH (fun r => spec_l5Cell.post sb s F0 r _ _) (show some _ = some r from H) ⟨rfl, hH.sel [] (by decide)⟩)
  ·replace H := iteF hb274 H
   refine HT_false (congrArg Value.bool hb274) ?_
   refine HT_seq_k ?_
   intro K276 hK276
   refine HT_region ?_
   refine HL_cons rfl ?_
   refine o_bin rfl rfl rfl ?_
   try dsimp only [putL, setL, evL, getL]
   refine HL_cons rfl ?_
   refine o_assign ?_
   try dsimp only [putL, setL, evL, getL]
   refine HL_nil ?_
   refine hK276 _ _ ?_
   rcases Bool.eq_false_or_eq_true (p5_0 == 2) with hb277 | hb277
   ·replace H := iteT hb277 H
    refine HT_true (congrArg Value.bool hb277) ?_
    refine HT_seq_k ?_
    intro K278 hK278
    refine HX_draw hMix ?_
    refine HX_lim (R := fun _ => True) (k := 0) (fun s' => Gro s2 s') 15 ?_
    have hR := Gro.refl s2
    have hH0 := hH
    refine HK_readP 0 (v := .int .i64 p7) rfl (by kernel_rfl) (fun c l s h => hQp c l s h) rfl (fun s' K hK => ?_) rfl rfl (fun _ => hR) ?_
    ·refine o_move ?_
     exact hK
    try dsimp only [putL, setL, evL, getL]
    refine HK_readP 1 (v := .int .i64 p6) rfl (by kernel_rfl) (fun c l s h => hQp c l s h) rfl (fun s' K hK => ?_) rfl rfl (fun _ => hR) ?_
    ·refine o_move ?_
     exact hK
    try dsimp only [putL, setL, evL, getL]
    refine HK_readP 2 (v := .int .i64 (IntKind.i64.wrap (p6 + 1))) rfl (by kernel_rfl) (fun c l s h => hQp c l s h) rfl (fun s' K hK => ?_) rfl rfl (fun _ => hR) ?_
    ·refine o_bin rfl rfl rfl ?_
     exact hK
    try dsimp only [putL, setL, evL, getL]
    refine HK_readP 3 (v := .bool (p7 == (IntKind.i64.wrap (p6 + 1)))) rfl (by kernel_rfl) (fun c l s h => hQp c l s h) rfl (fun s' K hK => ?_) rfl rfl (fun _ => hR) ?_
    ·refine o_bin rfl rfl rfl ?_
     exact hK
    try dsimp only [putL, setL, evL, getL]
    refine HK_readP 4 (v := .bool (p7 == (IntKind.i64.wrap (p6 + 1)))) rfl (by kernel_rfl) (fun c l s h => hQp c l s h) rfl (fun s' K hK => ?_) rfl rfl (fun _ => hR) ?_
    ·refine o_move ?_
     exact hK
    try dsimp only [putL, setL, evL, getL]
    rcases Bool.eq_false_or_eq_true (p7 == (IntKind.i64.wrap (p6 + 1))) with hb279 | hb279
    ·replace H := iteT hb279 H
     refine HK_readP 5 (v := .pointer (some ⟨b2, 0 + 1, none⟩)) rfl (by kernel_rfl) (fun c l s h => hQp c l s h) (wantT (j := 4) (b := true) (t := 38) (c := p7 == (IntKind.i64.wrap (p6 + 1))) rfl rfl rfl rfl hb279) (fun s' K hK => ?_) rfl rfl (fun _ => hR) ?_
     ·refine o_faddr' (ft := 24) (off := 1) rfl Try.underlying139 rfl tI24 (by decide) ?_
      exact hK
     try dsimp only [putL, setL, evL, getL]
     refine HK_read 6 (v := .slice A5_1p p5_1.length c5_1p) rfl (by kernel_rfl) (fun c l s h => hQp c l s h) (wantT (j := 4) (b := true) (t := 38) (c := p7 == (IntKind.i64.wrap (p6 + 1))) rfl rfl rfl rfl hb279) (fun s' hR' K hK => ?_) rfl rfl hR ?_
     ·refine o_load' rfl Try.underlying24 rfl (has_gro hR' (hH0.hasv 0 rfl rfl)) ?_
      exact hK
     try dsimp only [putL, setL, evL, getL]
     refine HK_readP 7 (v := .slice A3p p3.length c3p) rfl (by kernel_rfl) (fun c l s h => hQp c l s h) (wantT (j := 4) (b := true) (t := 38) (c := p7 == (IntKind.i64.wrap (p6 + 1))) rfl rfl rfl rfl hb279) (fun s' K hK => ?_) rfl rfl (fun _ => hR) ?_
     ·refine o_move ?_
      exact hK
     try dsimp only [putL, setL, evL, getL]
     refine HK_readP 8 (v := .int .i64 p6) rfl (by kernel_rfl) (fun c l s h => hQp c l s h) (wantT (j := 4) (b := true) (t := 38) (c := p7 == (IntKind.i64.wrap (p6 + 1))) rfl rfl rfl rfl hb279) (fun s' K hK => ?_) rfl rfl (fun _ => hR) ?_
     ·refine o_move ?_
      exact hK
     try dsimp only [putL, setL, evL, getL]
     replace H := headE H
     obtain ⟨u280, hu280, H⟩ := H
     obtain ⟨b280, o280, cs280, hr280, hh280, hel280⟩ := Rd.elb HRp3 hu280
     obtain rfl := hr280
     refine HK_readP 9 (v := .pointer (some ⟨b280, o280, none⟩)) rfl (by kernel_rfl) (fun c l s h => hQp c l s h) (wantT (j := 4) (b := true) (t := 38) (c := p7 == (IntKind.i64.wrap (p6 + 1))) rfl rfl rfl rfl hb279) (fun s' K hK => ?_) rfl rfl (fun _ => hR) ?_
     ·refine hel280 s' rfl rfl Try.underlying24 tI3 ?_
      exact hK
     try dsimp only [putL, setL, evL, getL]
     refine HK_read 10 (v := .int .i64 u280) rfl (by kernel_rfl) (fun c l s h => hQp c l s h) (wantT (j := 4) (b := true) (t := 38) (c := p7 == (IntKind.i64.wrap (p6 + 1))) rfl rfl rfl rfl hb279) (fun s' hR' K hK => ?_) rfl rfl hR ?_
     ·refine o_load' rfl Try.underlying3 rfl ((hh280 (hH0.bs.mono.trans hR'.mono)) 0 _ rfl) ?_
      exact hK
     try dsimp only [putL, setL, evL, getL]
     refine HK_more [11] (by kernel_rfl) rfl (fun _ => hR) ⟨⟨_, rfl, Or.inl ⟨(wantT (j := 4) (b := true) (t := 38) (c := p7 == (IntKind.i64.wrap (p6 + 1))) rfl rfl rfl rfl hb279), ?_⟩⟩, trivial⟩
     replace H := headE H
     obtain ⟨u281, hu281, H⟩ := H
     skip
     refine o_call (args := #[.slice A5_1p p5_1.length c5_1p, .int .i64 u280]) Try.func201 rfl rfl rfl (spec_l4In.ok sb s2 no A5_1p c5_1p p5_1 u280 HRp5_1 (Hp.own hH.bs) _ hu281) ?_
     rintro _ s281 ⟨rfl, hD⟩
     replace hR := hR.trans hD.gro
     replace hH := hH.back0 hD (Up.refl _ _ _)
     clear hD
     dsimp only [addC, setC, rmC, selC, getC] at hH
     try dsimp only [putL, setL, evL, getL]
     refine HK_readP 12 (v := .bool u281) rfl (by kernel_rfl) (fun c l s h => hQp c l s h) rfl (fun s' K hK => ?_) rfl rfl (fun _ => hR) ?_
     ·refine o_pickT rfl hb279 ?_
      exact hK
     try dsimp only [putL, setL, evL, getL]
     refine HK_more [13] (by kernel_rfl) rfl (fun _ => hR) ⟨⟨_, rfl, Or.inl ⟨rfl, ?_⟩⟩, trivial⟩
     skip
     refine o_assign ?_
     try dsimp only [putL, setL, evL, getL]
     refine HK_done (fun _ => hR) (by kernel_rfl) ?_
     refine hK278 _ _ ?_
     refine HT_ret ?_
     replace H := escH (fun z hz => hG6 _ hz) H
     exact hQr _ _ [.bool u281] ⟨rfl, trivial⟩ (retH (fun r => spec_l5Cell.post sb s F0 r _ _) (show some _ = some r from H) ⟨rfl, hH.sel [] (by decide)⟩)
    ·replace H := iteF hb279 H
     refine HK_passP 5 rfl (by kernel_rfl) (fun c l s h => hQp c l s h) ?_ (fun _ => hR) ?_
     ·exact wantF (j := 4) (b := true) (t := 38) (c := p7 == (IntKind.i64.wrap (p6 + 1))) rfl rfl rfl rfl hb279
     try dsimp only [putL, setL, evL, getL]
     refine HK_passP 6 rfl (by kernel_rfl) (fun c l s h => hQp c l s h) ?_ (fun _ => hR) ?_
     ·exact wantF (j := 4) (b := true) (t := 38) (c := p7 == (IntKind.i64.wrap (p6 + 1))) rfl rfl rfl rfl hb279
     try dsimp only [putL, setL, evL, getL]
     refine HK_passP 7 rfl (by kernel_rfl) (fun c l s h => hQp c l s h) ?_ (fun _ => hR) ?_
     ·exact wantF (j := 4) (b := true) (t := 38) (c := p7 == (IntKind.i64.wrap (p6 + 1))) rfl rfl rfl rfl hb279
     try dsimp only [putL, setL, evL, getL]
     refine HK_passP 8 rfl (by kernel_rfl) (fun c l s h => hQp c l s h) ?_ (fun _ => hR) ?_
     ·exact wantF (j := 4) (b := true) (t := 38) (c := p7 == (IntKind.i64.wrap (p6 + 1))) rfl rfl rfl rfl hb279
     try dsimp only [putL, setL, evL, getL]
     refine HK_passP 9 rfl (by kernel_rfl) (fun c l s h => hQp c l s h) ?_ (fun _ => hR) ?_
     ·exact wantF (j := 4) (b := true) (t := 38) (c := p7 == (IntKind.i64.wrap (p6 + 1))) rfl rfl rfl rfl hb279
     try dsimp only [putL, setL, evL, getL]
     refine HK_passP 10 rfl (by kernel_rfl) (fun c l s h => hQp c l s h) ?_ (fun _ => hR) ?_
     ·exact wantF (j := 4) (b := true) (t := 38) (c := p7 == (IntKind.i64.wrap (p6 + 1))) rfl rfl rfl rfl hb279
     try dsimp only [putL, setL, evL, getL]
     refine HK_passP 11 rfl (by kernel_rfl) (fun c l s h => hQp c l s h) ?_ (fun _ => hR) ?_
     ·exact wantF (j := 4) (b := true) (t := 38) (c := p7 == (IntKind.i64.wrap (p6 + 1))) rfl rfl rfl rfl hb279
     try dsimp only [putL, setL, evL, getL]
     refine HK_readP 12 (v := .bool false) rfl (by kernel_rfl) (fun c l s h => hQp c l s h) rfl (fun s' K hK => ?_) rfl rfl (fun _ => hR) ?_
     ·refine o_pickF rfl hb279 ?_
      exact hK
     try dsimp only [putL, setL, evL, getL]
     refine HK_more [13] (by kernel_rfl) rfl (fun _ => hR) ⟨⟨_, rfl, Or.inl ⟨rfl, ?_⟩⟩, trivial⟩
     skip
     refine o_assign ?_
     try dsimp only [putL, setL, evL, getL]
     refine HK_done (fun _ => hR) (by kernel_rfl) ?_
     refine hK278 _ _ ?_
     refine HT_ret ?_
     replace H := escH (fun z hz => hG6 _ hz) H
     exact hQr _ _ [.bool false] ⟨rfl, trivial⟩ (retH (fun r => spec_l5Cell.post sb s F0 r _ _) (show some _ = some r from H) ⟨rfl, hH.sel [] (by decide)⟩)
   ·replace H := iteF hb277 H
    refine HT_false (congrArg Value.bool hb277) ?_
    refine HT_seq_k ?_
    intro K282 hK282
    refine HT_region ?_
    refine HL_cons rfl ?_
    refine o_bin rfl rfl rfl ?_
    try dsimp only [putL, setL, evL, getL]
    refine HL_cons rfl ?_
    refine o_assign ?_
    try dsimp only [putL, setL, evL, getL]
    refine HL_nil ?_
    refine hK282 _ _ ?_
    rcases Bool.eq_false_or_eq_true (p5_0 == 7) with hb283 | hb283
    ·replace H := iteT hb283 H
     refine HT_true (congrArg Value.bool hb283) ?_
     refine HT_seq_k ?_
     intro K284 hK284
     refine HT_region ?_
     refine HL_cons rfl ?_
     refine o_move ?_
     try dsimp only [putL, setL, evL, getL]
     refine HL_cons rfl ?_
     refine o_move ?_
     try dsimp only [putL, setL, evL, getL]
     refine HL_cons rfl ?_
     refine o_bin rfl rfl rfl ?_
     try dsimp only [putL, setL, evL, getL]
     replace H := headE H
     obtain ⟨u285, hu285, H⟩ := H
     obtain ⟨b285, o285, cs285, hr285, hh285, hel285⟩ := Rd.elb HRp1 hu285
     obtain ⟨A286, c286, rfl, D286⟩ := hr285
     refine HL_cons rfl ?_
     refine hel285 s2 rfl rfl Try.underlying178 tI209 ?_
     try dsimp only [putL, setL, evL, getL]
     refine HL_cons rfl ?_
     refine o_load' rfl Try.underlying209 rfl ((hh285 hH.bs.mono) 0 _ rfl) ?_
     try dsimp only [putL, setL, evL, getL]
     refine HL_cons rfl ?_
     refine o_move ?_
     try dsimp only [putL, setL, evL, getL]
     refine HL_cons rfl ?_
     refine o_move ?_
     try dsimp only [putL, setL, evL, getL]
     refine HL_cons rfl ?_
     refine o_bin rfl rfl rfl ?_
     try dsimp only [putL, setL, evL, getL]
     refine HL_cons rfl ?_
     refine o_move ?_
     try dsimp only [putL, setL, evL, getL]
     refine HL_cons rfl ?_
     refine o_bin rfl rfl rfl ?_
     try dsimp only [putL, setL, evL, getL]
     replace H := headE H
     obtain ⟨u287, hu287, H⟩ := H
     obtain ⟨b287, o287, cs287, hr287, hh287, hel287⟩ := Rd.elb D286 hu287
     obtain rfl := hr287
     refine HL_cons rfl ?_
     refine hel287 s2 rfl rfl Try.underlying209 tI4 ?_
     try dsimp only [putL, setL, evL, getL]
     refine HL_cons rfl ?_
     refine o_load' rfl Try.underlying4 rfl ((hh287 hH.bs.mono) 0 _ rfl) ?_
     try dsimp only [putL, setL, evL, getL]
     refine HL_cons rfl ?_
     refine o_not rfl ?_
     try dsimp only [putL, setL, evL, getL]
     refine HL_cons rfl ?_
     refine o_assign ?_
     try dsimp only [putL, setL, evL, getL]
     refine HL_nil ?_
     refine hK284 _ _ ?_
     refine HT_ret ?_
     replace H := escH (fun z hz => hG6 _ hz) H
     exact hQr _ _ [.bool (!u287)] ⟨rfl, trivial⟩ (retH (fun r => spec_l5Cell.post sb s F0 r _ _) (show some _ = some r from H) ⟨rfl, hH.sel [] (by decide)⟩)
    ·replace H := iteF hb283 H
     refine HT_false (congrArg Value.bool hb283) ?_
     refine HT_seq_k ?_
     intro K288 hK288
     refine HT_region ?_
     refine HL_cons rfl ?_
     refine o_bin rfl rfl rfl ?_
     try dsimp only [putL, setL, evL, getL]
     refine HL_cons rfl ?_
     refine o_assign ?_
     try dsimp only [putL, setL, evL, getL]
     refine HL_nil ?_
     refine hK288 _ _ ?_
     rcases Bool.eq_false_or_eq_true (p5_0 == 6) with hb289 | hb289
     ·replace H := iteT hb289 H
      refine HT_true (congrArg Value.bool hb289) ?_
      refine HT_seq_k ?_
      intro K290 hK290
      refine HT_seq_k ?_
      intro K291 hK291
      refine HT_region ?_
      refine HL_cons rfl ?_
      refine o_move ?_
      try dsimp only [putL, setL, evL, getL]
      refine HL_cons rfl ?_
      refine o_move ?_
      try dsimp only [putL, setL, evL, getL]
      refine HL_cons rfl ?_
      refine o_bin rfl rfl rfl ?_
      try dsimp only [putL, setL, evL, getL]
      refine HL_nil ?_
      refine hK291 _ _ ?_
      rcases Bool.eq_false_or_eq_true (p6 == p7) with hb292 | hb292
      ·replace H := iteT hb292 H
       refine HT_true (congrArg Value.bool hb292) ?_
       refine HT_seq_k ?_
       intro K293 hK293
       refine HT_region ?_
       refine HL_cons rfl ?_
       refine o_assign ?_
       try dsimp only [putL, setL, evL, getL]
       refine HL_nil ?_
       refine hK293 _ _ ?_
       refine HT_ret ?_
       replace H := escH (fun z hz => hG6 _ hz) H
       exact hQr _ _ [.bool true] ⟨rfl, trivial⟩ (retH (fun r => spec_l5Cell.post sb s F0 r _ _) (show some _ = some r from H) ⟨rfl, hH.sel [] (by decide)⟩)
      ·replace H := iteF hb292 H
       refine HT_false (congrArg Value.bool hb292) ?_
       refine HT_skip ?_
       refine hK290 _ _ ?_
       refine HT_seq_k ?_
       intro K294 hK294
       refine HT_seq_k ?_
       intro K295 hK295
       refine HT_region ?_
       refine HL_cons rfl ?_
       refine o_move ?_
       try dsimp only [putL, setL, evL, getL]
       refine HL_cons rfl ?_
       refine o_bin rfl rfl rfl ?_
       try dsimp only [putL, setL, evL, getL]
       refine HL_cons rfl ?_
       refine o_assign ?_
       try dsimp only [putL, setL, evL, getL]
       refine HL_nil ?_
       refine hK295 _ _ ?_
       refine joinH H fun G296 hG296 H => ?_
       refine HT_toK (fun l' s' => G296 (.go ()) = some r ∧ l' = [.slice A0p p0.length c0p, .slice A1p p1.length c1p, .slice A2p p2.length c2p, .slice A3p p3.length c3p, .int .i64 p4, .agg #[.int .i64 p5_0, .slice A5_1p p5_1.length c5_1p], .int .i64 p6, .int .i64 p7, undef, undef, undef, undef, undef, .pointer (some ⟨b2, 0, none⟩), undef, undef, getL l' 16, .int .i64 (IntKind.i64.wrap ((p3.length : Int) + 1)), getL l' 18, undef, undef, undef, .slice A3p p3.length c3p, .int .i64 (p3.length : Int), .int .i64 (IntKind.i64.wrap ((p3.length : Int) + 1)), .pointer (some ⟨b2, 0 + 0, none⟩), .int .i64 p5_0, .bool (p5_0 == 1), .bool (p5_0 == 1), undef, undef, undef, .bool (p5_0 == 2), .bool (p5_0 == 2), undef, undef, undef, undef, undef, undef, undef, undef, undef, undef, undef, undef, undef, .bool (p5_0 == 7), .bool (p5_0 == 7), undef, undef, undef, undef, undef, undef, undef, undef, undef, undef, undef, undef, undef, .bool (p5_0 == 6), .bool (p5_0 == 6), .int .i64 p6, .int .i64 p7, .bool (p6 == p7), .int .i64 p6, .int .i64 (IntKind.i64.wrap (p6 + 1)), getL l' 69, getL l' 70, getL l' 71, getL l' 72, getL l' 73, getL l' 74, getL l' 75, getL l' 76, getL l' 77, getL l' 78, getL l' 79, getL l' 80, getL l' 81, getL l' 82, getL l' 83, getL l' 84, getL l' 85, getL l' 86, getL l' 87, getL l' 88, getL l' 89, getL l' 90, getL l' 91, getL l' 92, getL l' 93, getL l' 94, getL l' 95, getL l' 96, getL l' 97, getL l' 98, getL l' 99, getL l' 100, undef, undef, undef, undef, undef, undef, undef, undef, undef, undef, undef, undef, undef, undef, undef, undef, undef, undef, undef, undef, undef, undef, undef, undef, undef, undef, undef, undef, undef, undef, undef, undef, undef, undef, undef, undef, undef, undef, undef, undef, undef, undef, undef, undef, undef, undef, undef, undef, undef, undef, undef, undef, undef, undef, undef, undef, undef, undef, undef, undef, undef, undef, undef, undef, undef, undef, undef, undef, undef, undef, undef, undef, undef, undef, undef, undef, undef] ∧ Hp sb s F0 s' []) ?_ ?_
       ·intro K296 hK296
        refine HT_block ?_
        refine HT_loopK (fun kf l' s' => ∃ (x456 : Int), (spec_l5Cell.l1 p1 p2 p3 p4 p6 p7 kf x456).bind G296 = some r ∧ l' = [.slice A0p p0.length c0p, .slice A1p p1.length c1p, .slice A2p p2.length c2p, .slice A3p p3.length c3p, .int .i64 p4, .agg #[.int .i64 p5_0, .slice A5_1p p5_1.length c5_1p], .int .i64 p6, .int .i64 p7, undef, undef, undef, undef, undef, .pointer (some ⟨b2, 0, none⟩), undef, undef, getL l' 16, .int .i64 (IntKind.i64.wrap ((p3.length : Int) + 1)), .int .i64 x456, undef, undef, undef, .slice A3p p3.length c3p, .int .i64 (p3.length : Int), .int .i64 (IntKind.i64.wrap ((p3.length : Int) + 1)), .pointer (some ⟨b2, 0 + 0, none⟩), .int .i64 p5_0, .bool (p5_0 == 1), .bool (p5_0 == 1), undef, undef, undef, .bool (p5_0 == 2), .bool (p5_0 == 2), undef, undef, undef, undef, undef, undef, undef, undef, undef, undef, undef, undef, undef, .bool (p5_0 == 7), .bool (p5_0 == 7), undef, undef, undef, undef, undef, undef, undef, undef, undef, undef, undef, undef, undef, .bool (p5_0 == 6), .bool (p5_0 == 6), .int .i64 p6, .int .i64 p7, .bool (p6 == p7), .int .i64 p6, .int .i64 (IntKind.i64.wrap (p6 + 1)), getL l' 69, getL l' 70, getL l' 71, getL l' 72, getL l' 73, getL l' 74, getL l' 75, getL l' 76, getL l' 77, getL l' 78, getL l' 79, getL l' 80, getL l' 81, getL l' 82, getL l' 83, getL l' 84, getL l' 85, getL l' 86, getL l' 87, getL l' 88, getL l' 89, getL l' 90, getL l' 91, getL l' 92, getL l' 93, getL l' 94, getL l' 95, getL l' 96, getL l' 97, getL l' 98, getL l' 99, getL l' 100, undef, undef, undef, undef, undef, undef, undef, undef, undef, undef, undef, undef, undef, undef, undef, undef, undef, undef, undef, undef, undef, undef, undef, undef, undef, undef, undef, undef, undef, undef, undef, undef, undef, undef, undef, undef, undef, undef, undef, undef, undef, undef, undef, undef, undef, undef, undef, undef, undef, undef, undef, undef, undef, undef, undef, undef, undef, undef, undef, undef, undef, undef, undef, undef, undef, undef, undef, undef, undef, undef, undef, undef, undef, undef, undef, undef, undef] ∧ Hp sb s F0 s' []) (((p7) - (IntKind.i64.wrap (p6 + 1))).toNat + 2) ⟨IntKind.i64.wrap (p6 + 1), H, rfl, hH.sel [] (by decide)⟩ ?_
        rintro kf l' s497 ⟨x456, H, hl, hH⟩ K497 hK497
        generalize getL l' 16 = j16, getL l' 69 = j69, getL l' 70 = j70, getL l' 71 = j71, getL l' 72 = j72, getL l' 73 = j73, getL l' 74 = j74, getL l' 75 = j75, getL l' 76 = j76, getL l' 77 = j77, getL l' 78 = j78, getL l' 79 = j79, getL l' 80 = j80, getL l' 81 = j81, getL l' 82 = j82, getL l' 83 = j83, getL l' 84 = j84, getL l' 85 = j85, getL l' 86 = j86, getL l' 87 = j87, getL l' 88 = j88, getL l' 89 = j89, getL l' 90 = j90, getL l' 91 = j91, getL l' 92 = j92, getL l' 93 = j93, getL l' 94 = j94, getL l' 95 = j95, getL l' 96 = j96, getL l' 97 = j97, getL l' 98 = j98, getL l' 99 = j99, getL l' 100 = j100 at hl
        subst hl
        cases kf with
        | zero => simp [spec_l5Cell.l1] at H
        | succ kf =>
         rw [spec_l5Cell.l1] at H
         refine HT_seq_k ?_
         intro K498 hK498
         refine HT_seq_k ?_
         intro K499 hK499
         refine HT_region ?_
         refine HL_cons rfl ?_
         refine o_move ?_
         try dsimp only [putL, setL, evL, getL]
         refine HL_cons rfl ?_
         refine o_move ?_
         try dsimp only [putL, setL, evL, getL]
         refine HL_cons rfl ?_
         refine o_bin rfl rfl rfl ?_
         try dsimp only [putL, setL, evL, getL]
         refine HL_nil ?_
         refine hK499 _ _ ?_
         rcases Bool.eq_false_or_eq_true (decide (x456 ≤ p7)) with hb500 | hb500
         ·replace H := iteT hb500 H
          refine HT_true (congrArg Value.bool hb500) ?_
          refine HT_skip ?_
          refine hK498 _ _ ?_
          refine HT_seq_k ?_
          intro K519 hK519
          refine HT_block ?_
          refine joinH H fun G520 hG520 H => ?_
          refine HT_joinK (fun l' s' => ∃ (x527 : Bool), G520 x527 = some r ∧ l' = [.slice A0p p0.length c0p, .slice A1p p1.length c1p, .slice A2p p2.length c2p, .slice A3p p3.length c3p, .int .i64 p4, .agg #[.int .i64 p5_0, .slice A5_1p p5_1.length c5_1p], .int .i64 p6, .int .i64 p7, undef, undef, undef, undef, undef, .pointer (some ⟨b2, 0, none⟩), undef, undef, j16, .int .i64 (IntKind.i64.wrap ((p3.length : Int) + 1)), .int .i64 x456, undef, undef, undef, .slice A3p p3.length c3p, .int .i64 (p3.length : Int), .int .i64 (IntKind.i64.wrap ((p3.length : Int) + 1)), .pointer (some ⟨b2, 0 + 0, none⟩), .int .i64 p5_0, .bool (p5_0 == 1), .bool (p5_0 == 1), undef, undef, undef, .bool (p5_0 == 2), .bool (p5_0 == 2), undef, undef, undef, undef, undef, undef, undef, undef, undef, undef, undef, undef, undef, .bool (p5_0 == 7), .bool (p5_0 == 7), undef, undef, undef, undef, undef, undef, undef, undef, undef, undef, undef, undef, undef, .bool (p5_0 == 6), .bool (p5_0 == 6), .int .i64 p6, .int .i64 p7, .bool (p6 == p7), .int .i64 p6, .int .i64 (IntKind.i64.wrap (p6 + 1)), .int .i64 x456, .int .i64 p7, .bool (decide (x456 ≤ p7)), j72, j73, getL l' 74, getL l' 75, getL l' 76, getL l' 77, getL l' 78, getL l' 79, getL l' 80, getL l' 81, getL l' 82, getL l' 83, getL l' 84, getL l' 85, getL l' 86, getL l' 87, getL l' 88, getL l' 89, getL l' 90, getL l' 91, getL l' 92, getL l' 93, getL l' 94, getL l' 95, getL l' 96, getL l' 97, getL l' 98, getL l' 99, .bool x527, undef, undef, undef, undef, undef, undef, undef, undef, undef, undef, undef, undef, undef, undef, undef, undef, undef, undef, undef, undef, undef, undef, undef, undef, undef, undef, undef, undef, undef, undef, undef, undef, undef, undef, undef, undef, undef, undef, undef, undef, undef, undef, undef, undef, undef, undef, undef, undef, undef, undef, undef, undef, undef, undef, undef, undef, undef, undef, undef, undef, undef, undef, undef, undef, undef, undef, undef, undef, undef, undef, undef, undef, undef, undef, undef, undef, undef] ∧ Hp sb s F0 s' []) ?_ ?_
          ·intro K520 hK520
           refine HT_region ?_
           refine HL_cons rfl ?_
           refine o_move ?_
           try dsimp only [putL, setL, evL, getL]
           refine HL_cons rfl ?_
           refine o_move ?_
           try dsimp only [putL, setL, evL, getL]
           refine HL_cons rfl ?_
           refine o_bin rfl rfl rfl ?_
           try dsimp only [putL, setL, evL, getL]
           replace H := headE H
           obtain ⟨u528, hu528, H⟩ := H
           obtain ⟨b528, o528, cs528, hr528, hh528, hel528⟩ := Rd.elb HRp1 hu528
           obtain ⟨A529, c529, rfl, D529⟩ := hr528
           refine HL_cons rfl ?_
           refine hel528 s497 rfl rfl Try.underlying178 tI209 ?_
           try dsimp only [putL, setL, evL, getL]
           refine HL_cons rfl ?_
           refine o_load' rfl Try.underlying209 rfl ((hh528 hH.bs.mono) 0 _ rfl) ?_
           try dsimp only [putL, setL, evL, getL]
           refine HL_cons rfl ?_
           refine o_move ?_
           try dsimp only [putL, setL, evL, getL]
           refine HL_cons rfl ?_
           refine o_move ?_
           try dsimp only [putL, setL, evL, getL]
           refine HL_cons rfl ?_
           refine o_bin rfl rfl rfl ?_
           try dsimp only [putL, setL, evL, getL]
           refine HL_cons rfl ?_
           refine o_move ?_
           try dsimp only [putL, setL, evL, getL]
           refine HL_cons rfl ?_
           refine o_bin rfl rfl rfl ?_
           try dsimp only [putL, setL, evL, getL]
           replace H := headE H
           obtain ⟨u530, hu530, H⟩ := H
           obtain ⟨b530, o530, cs530, hr530, hh530, hel530⟩ := Rd.elb D529 hu530
           obtain rfl := hr530
           refine HL_cons rfl ?_
           refine hel530 s497 rfl rfl Try.underlying209 tI4 ?_
           try dsimp only [putL, setL, evL, getL]
           refine HL_cons rfl ?_
           refine o_load' rfl Try.underlying4 rfl ((hh530 hH.bs.mono) 0 _ rfl) ?_
           try dsimp only [putL, setL, evL, getL]
           refine HL_cons rfl ?_
           refine o_move ?_
           try dsimp only [putL, setL, evL, getL]
           rcases Bool.eq_false_or_eq_true u530 with hb531 | hb531
           ·replace H := iteT hb531 H
            refine HL_want ?_ ?_
            ·exact wantT (j := 12) (b := true) (t := 86) (c := u530) rfl rfl rfl rfl hb531
            refine o_move ?_
            try dsimp only [putL, setL, evL, getL]
            refine HL_want ?_ ?_
            ·exact wantT (j := 12) (b := true) (t := 86) (c := u530) rfl rfl rfl rfl hb531
            refine o_move ?_
            try dsimp only [putL, setL, evL, getL]
            refine HL_want ?_ ?_
            ·exact wantT (j := 12) (b := true) (t := 86) (c := u530) rfl rfl rfl rfl hb531
            refine o_bin rfl rfl rfl ?_
            try dsimp only [putL, setL, evL, getL]
            refine HL_want ?_ ?_
            ·exact wantT (j := 12) (b := true) (t := 86) (c := u530) rfl rfl rfl rfl hb531
            refine o_move ?_
            try dsimp only [putL, setL, evL, getL]
            rcases Bool.eq_false_or_eq_true (x456 == p7) with hb532 | hb532
            ·replace H := iteT hb532 H
             refine HL_skip ?_ ?_
             ·exact wantF (j := 16) (b := false) (t := 90) (c := x456 == p7) rfl rfl rfl rfl hb532
             try dsimp only [putL, setL, evL, getL]
             refine HL_skip ?_ ?_
             ·exact wantF (j := 16) (b := false) (t := 90) (c := x456 == p7) rfl rfl rfl rfl hb532
             try dsimp only [putL, setL, evL, getL]
             refine HL_skip ?_ ?_
             ·exact wantF (j := 16) (b := false) (t := 90) (c := x456 == p7) rfl rfl rfl rfl hb532
             try dsimp only [putL, setL, evL, getL]
             refine HL_skip ?_ ?_
             ·exact wantF (j := 16) (b := false) (t := 90) (c := x456 == p7) rfl rfl rfl rfl hb532
             try dsimp only [putL, setL, evL, getL]
             refine HL_skip ?_ ?_
             ·exact wantF (j := 16) (b := false) (t := 90) (c := x456 == p7) rfl rfl rfl rfl hb532
             try dsimp only [putL, setL, evL, getL]
             refine HL_skip ?_ ?_
             ·exact wantF (j := 16) (b := false) (t := 90) (c := x456 == p7) rfl rfl rfl rfl hb532
             try dsimp only [putL, setL, evL, getL]
             refine HL_skip ?_ ?_
             ·exact wantF (j := 16) (b := false) (t := 90) (c := x456 == p7) rfl rfl rfl rfl hb532
             try dsimp only [putL, setL, evL, getL]
             refine HL_skip ?_ ?_
             ·exact wantF (j := 16) (b := false) (t := 90) (c := x456 == p7) rfl rfl rfl rfl hb532
             try dsimp only [putL, setL, evL, getL]
             refine HL_want ?_ ?_
             ·exact wantT (j := 12) (b := true) (t := 86) (c := u530) rfl rfl rfl rfl hb531
             refine o_pickT rfl hb532 ?_
             try dsimp only [putL, setL, evL, getL]
             refine HL_cons rfl ?_
             refine o_pickT rfl hb531 ?_
             try dsimp only [putL, setL, evL, getL]
             refine HL_nil ?_
             exact hK520 _ _ ⟨true, H, rfl, hH⟩
            ·replace H := iteF hb532 H
             refine HL_want ?_ ?_
             ·exact wantT (j := 16) (b := false) (t := 90) (c := x456 == p7) rfl rfl rfl rfl hb532
             refine o_move ?_
             try dsimp only [putL, setL, evL, getL]
             refine HL_want ?_ ?_
             ·exact wantT (j := 16) (b := false) (t := 90) (c := x456 == p7) rfl rfl rfl rfl hb532
             refine o_move ?_
             try dsimp only [putL, setL, evL, getL]
             refine HL_want ?_ ?_
             ·exact wantT (j := 16) (b := false) (t := 90) (c := x456 == p7) rfl rfl rfl rfl hb532
             refine o_move ?_
             try dsimp only [putL, setL, evL, getL]
             refine HL_want ?_ ?_
             ·exact wantT (j := 16) (b := false) (t := 90) (c := x456 == p7) rfl rfl rfl rfl hb532
             refine o_bin rfl rfl rfl ?_
             try dsimp only [putL, setL, evL, getL]
             refine HL_want ?_ ?_
             ·exact wantT (j := 16) (b := false) (t := 90) (c := x456 == p7) rfl rfl rfl rfl hb532
             refine o_move ?_
             try dsimp only [putL, setL, evL, getL]
             refine HL_want ?_ ?_
             ·exact wantT (j := 16) (b := false) (t := 90) (c := x456 == p7) rfl rfl rfl rfl hb532
             refine o_bin rfl rfl rfl ?_
             try dsimp only [putL, setL, evL, getL]
             replace H := headE H
             obtain ⟨u533, hu533, H⟩ := H
             obtain ⟨b533, o533, cs533, hr533, hh533, hel533⟩ := Rd.elb HRp2 hu533
             obtain rfl := hr533
             refine HL_want ?_ ?_
             ·exact wantT (j := 16) (b := false) (t := 90) (c := x456 == p7) rfl rfl rfl rfl hb532
             refine hel533 s497 rfl rfl Try.underlying209 tI4 ?_
             try dsimp only [putL, setL, evL, getL]
             refine HL_want ?_ ?_
             ·exact wantT (j := 16) (b := false) (t := 90) (c := x456 == p7) rfl rfl rfl rfl hb532
             refine o_load' rfl Try.underlying4 rfl ((hh533 hH.bs.mono) 0 _ rfl) ?_
             try dsimp only [putL, setL, evL, getL]
             refine HL_want ?_ ?_
             ·exact wantT (j := 12) (b := true) (t := 86) (c := u530) rfl rfl rfl rfl hb531
             refine o_pickF rfl hb532 ?_
             try dsimp only [putL, setL, evL, getL]
             refine HL_cons rfl ?_
             refine o_pickT rfl hb531 ?_
             try dsimp only [putL, setL, evL, getL]
             refine HL_nil ?_
             exact hK520 _ _ ⟨u533, H, rfl, hH⟩
           ·replace H := iteF hb531 H
            refine HL_skip ?_ ?_
            ·exact wantF (j := 12) (b := true) (t := 86) (c := u530) rfl rfl rfl rfl hb531
            try dsimp only [putL, setL, evL, getL]
            refine HL_skip ?_ ?_
            ·exact wantF (j := 12) (b := true) (t := 86) (c := u530) rfl rfl rfl rfl hb531
            try dsimp only [putL, setL, evL, getL]
            refine HL_skip ?_ ?_
            ·exact wantF (j := 12) (b := true) (t := 86) (c := u530) rfl rfl rfl rfl hb531
            try dsimp only [putL, setL, evL, getL]
            refine HL_skip ?_ ?_
            ·exact wantF (j := 12) (b := true) (t := 86) (c := u530) rfl rfl rfl rfl hb531
            try dsimp only [putL, setL, evL, getL]
            refine HL_skip ?_ ?_
            ·exact wantU (j := 16) (b := false) (t := 90) rfl rfl rfl rfl
            try dsimp only [putL, setL, evL, getL]
            refine HL_skip ?_ ?_
            ·exact wantU (j := 16) (b := false) (t := 90) rfl rfl rfl rfl
            try dsimp only [putL, setL, evL, getL]
            refine HL_skip ?_ ?_
            ·exact wantU (j := 16) (b := false) (t := 90) rfl rfl rfl rfl
            try dsimp only [putL, setL, evL, getL]
            refine HL_skip ?_ ?_
            ·exact wantU (j := 16) (b := false) (t := 90) rfl rfl rfl rfl
            try dsimp only [putL, setL, evL, getL]
            refine HL_skip ?_ ?_
            ·exact wantU (j := 16) (b := false) (t := 90) rfl rfl rfl rfl
            try dsimp only [putL, setL, evL, getL]
            refine HL_skip ?_ ?_
            ·exact wantU (j := 16) (b := false) (t := 90) rfl rfl rfl rfl
            try dsimp only [putL, setL, evL, getL]
            refine HL_skip ?_ ?_
            ·exact wantU (j := 16) (b := false) (t := 90) rfl rfl rfl rfl
            try dsimp only [putL, setL, evL, getL]
            refine HL_skip ?_ ?_
            ·exact wantU (j := 16) (b := false) (t := 90) rfl rfl rfl rfl
            try dsimp only [putL, setL, evL, getL]
            refine HL_skip ?_ ?_
            ·exact wantF (j := 12) (b := true) (t := 86) (c := u530) rfl rfl rfl rfl hb531
            try dsimp only [putL, setL, evL, getL]
            refine HL_cons rfl ?_
            refine o_pickF rfl hb531 ?_
            try dsimp only [putL, setL, evL, getL]
            refine HL_nil ?_
            exact hK520 _ _ ⟨false, H, rfl, hH⟩
          ·rintro l' s534 ⟨x527, H, hl, hH⟩
           generalize getL l' 74 = j74, getL l' 75 = j75, getL l' 76 = j76, getL l' 77 = j77, getL l' 78 = j78, getL l' 79 = j79, getL l' 80 = j80, getL l' 81 = j81, getL l' 82 = j82, getL l' 83 = j83, getL l' 84 = j84, getL l' 85 = j85, getL l' 86 = j86, getL l' 87 = j87, getL l' 88 = j88, getL l' 89 = j89, getL l' 90 = j90, getL l' 91 = j91, getL l' 92 = j92, getL l' 93 = j93, getL l' 94 = j94, getL l' 95 = j95, getL l' 96 = j96, getL l' 97 = j97, getL l' 98 = j98, getL l' 99 = j99 at hl
           subst hl
           replace H := hG520 _ H
           try dsimp only at H
           rcases Bool.eq_false_or_eq_true x527 with hb535 | hb535
           ·replace H := iteT hb535 H
            refine HT_true (congrArg Value.bool hb535) ?_
            refine HT_seq_k ?_
            intro K536 hK536
            refine HT_region ?_
            refine HL_cons rfl ?_
            refine o_assign ?_
            try dsimp only [putL, setL, evL, getL]
            refine HL_nil ?_
            refine hK536 _ _ ?_
            refine HT_ret ?_
            replace H := escH (fun z hz => hG296 _ hz) H
            replace H := escH (fun z hz => hG6 _ hz) H
            exact hQr _ _ [.bool true] ⟨rfl, trivial⟩ (retH (fun r => spec_l5Cell.post sb s F0 r _ _) (show some _ = some r from H) ⟨rfl, hH⟩)
           ·replace H := iteF hb535 H
            refine HT_false (congrArg Value.bool hb535) ?_
            refine HT_skip ?_
            refine hK519 _ _ ?_
            refine HT_region ?_
            refine HL_cons rfl ?_
            refine o_move ?_
            try dsimp only [putL, setL, evL, getL]
            refine HL_cons rfl ?_
            refine o_bin rfl rfl rfl ?_
            try dsimp only [putL, setL, evL, getL]
            refine HL_cons rfl ?_
            refine o_assign ?_
            try dsimp only [putL, setL, evL, getL]
            refine HL_nil ?_
            exact hK497 _ _ ⟨kf, Nat.lt_succ_self kf, IntKind.i64.wrap (x456 + 1), H, rfl, hH⟩
         ·replace H := iteF hb500 H
          refine HT_false (congrArg Value.bool hb500) ?_
          refine HT_exit ?_
          exact hK296 _ _ ⟨H, rfl, hH⟩
       ·rintro l' s537 ⟨H, hl, hH⟩
        generalize getL l' 16 = j16, getL l' 18 = j18, getL l' 69 = j69, getL l' 70 = j70, getL l' 71 = j71, getL l' 72 = j72, getL l' 73 = j73, getL l' 74 = j74, getL l' 75 = j75, getL l' 76 = j76, getL l' 77 = j77, getL l' 78 = j78, getL l' 79 = j79, getL l' 80 = j80, getL l' 81 = j81, getL l' 82 = j82, getL l' 83 = j83, getL l' 84 = j84, getL l' 85 = j85, getL l' 86 = j86, getL l' 87 = j87, getL l' 88 = j88, getL l' 89 = j89, getL l' 90 = j90, getL l' 91 = j91, getL l' 92 = j92, getL l' 93 = j93, getL l' 94 = j94, getL l' 95 = j95, getL l' 96 = j96, getL l' 97 = j97, getL l' 98 = j98, getL l' 99 = j99, getL l' 100 = j100 at hl
        subst hl
        replace H := hG296 _ H
        try dsimp only at H
        refine hK294 _ _ ?_
        refine HT_seq_k ?_
        intro K538 hK538
        refine HT_region ?_
        refine HL_cons rfl ?_
        refine o_assign ?_
        try dsimp only [putL, setL, evL, getL]
        refine HL_nil ?_
        refine hK538 _ _ ?_
        refine HT_ret ?_
        replace H := escH (fun z hz => hG6 _ hz) H
        exact hQr _ _ [.bool false] ⟨rfl, trivial⟩ (retH (fun r => spec_l5Cell.post sb s F0 r _ _) (show some _ = some r from H) ⟨rfl, hH⟩)
     ·replace H := iteF hb289 H
      refine HT_false (congrArg Value.bool hb289) ?_
      refine HT_skip ?_
      exact hK6 _ _ ⟨H, rfl, hH⟩
 ·rintro l' s539 ⟨H, hl, hH⟩
  generalize getL l' 16 = j16, getL l' 18 = j18, getL l' 27 = j27, getL l' 28 = j28, getL l' 29 = j29, getL l' 30 = j30, getL l' 31 = j31, getL l' 32 = j32, getL l' 33 = j33, getL l' 34 = j34, getL l' 35 = j35, getL l' 36 = j36, getL l' 37 = j37, getL l' 38 = j38, getL l' 39 = j39, getL l' 40 = j40, getL l' 41 = j41, getL l' 42 = j42, getL l' 43 = j43, getL l' 44 = j44, getL l' 45 = j45, getL l' 46 = j46, getL l' 47 = j47, getL l' 48 = j48, getL l' 49 = j49, getL l' 50 = j50, getL l' 51 = j51, getL l' 52 = j52, getL l' 53 = j53, getL l' 54 = j54, getL l' 55 = j55, getL l' 56 = j56, getL l' 57 = j57, getL l' 58 = j58, getL l' 59 = j59, getL l' 60 = j60, getL l' 61 = j61, getL l' 62 = j62, getL l' 63 = j63, getL l' 64 = j64, getL l' 65 = j65, getL l' 66 = j66, getL l' 67 = j67, getL l' 68 = j68, getL l' 69 = j69, getL l' 70 = j70, getL l' 71 = j71, getL l' 72 = j72, getL l' 73 = j73, getL l' 74 = j74, getL l' 75 = j75, getL l' 76 = j76, getL l' 77 = j77, getL l' 78 = j78, getL l' 79 = j79, getL l' 80 = j80, getL l' 81 = j81, getL l' 82 = j82, getL l' 83 = j83, getL l' 84 = j84, getL l' 85 = j85, getL l' 86 = j86, getL l' 87 = j87, getL l' 88 = j88, getL l' 89 = j89, getL l' 90 = j90, getL l' 91 = j91, getL l' 92 = j92, getL l' 93 = j93, getL l' 94 = j94, getL l' 95 = j95, getL l' 96 = j96, getL l' 97 = j97, getL l' 98 = j98, getL l' 99 = j99, getL l' 100 = j100 at hl
  subst hl
  replace H := hG6 _ H
  try dsimp only at H
  refine hK4 _ _ ?_
  refine HT_seq_k ?_
  intro K540 hK540
  refine HT_region ?_
  refine HL_cons rfl ?_
  refine o_move ?_
  try dsimp only [putL, setL, evL, getL]
  refine HL_cons rfl ?_
  refine o_move ?_
  try dsimp only [putL, setL, evL, getL]
  refine HL_cons rfl ?_
  refine o_move ?_
  try dsimp only [putL, setL, evL, getL]
  replace H := headE H
  obtain ⟨u541, hu541, H⟩ := H
  refine HL_cons rfl ?_
  refine o_call (args := #[.slice A0p p0.length c0p, .int .i64 p4]) Try.func202 rfl rfl rfl (spec_l5First.ok sb s539 no A0p c0p p0 p4 HRp0 (Hp.own hH.bs) _ hu541) ?_
  rintro _ s541 ⟨rfl, hD⟩
  replace hH := hH.back0 hD (Up.refl _ _ _)
  clear hD
  dsimp only [addC, setC, rmC, selC, getC] at hH
  try dsimp only [putL, setL, evL, getL]
  replace H := headE H
  obtain ⟨u542, hu542, H⟩ := H
  obtain ⟨b542, o542, cs542, hr542, hh542, hel542⟩ := Rd.elb HRp1 hu542
  obtain ⟨A543, c543, rfl, D543⟩ := hr542
  refine HL_cons rfl ?_
  refine hel542 s541 rfl rfl Try.underlying178 tI209 ?_
  try dsimp only [putL, setL, evL, getL]
  refine HL_cons rfl ?_
  refine o_load' rfl Try.underlying209 rfl ((hh542 hH.bs.mono) 0 _ rfl) ?_
  try dsimp only [putL, setL, evL, getL]
  refine HL_cons rfl ?_
  refine o_assign ?_
  try dsimp only [putL, setL, evL, getL]
  refine HL_nil ?_
  refine hK540 _ _ ?_
  refine HT_seq_k ?_
  intro K544 hK544
  refine HT_region ?_
  refine HL_cons rfl ?_
  refine o_move ?_
  try dsimp only [putL, setL, evL, getL]
  refine HL_cons rfl ?_
  refine o_move ?_
  try dsimp only [putL, setL, evL, getL]
  refine HL_cons rfl ?_
  refine o_bin rfl rfl rfl ?_
  try dsimp only [putL, setL, evL, getL]
  replace H := headE H
  obtain ⟨u545, hu545, H⟩ := H
  obtain ⟨b545, o545, cs545, hr545, hh545, hel545⟩ := Rd.elb HRp1 hu545
  obtain ⟨A546, c546, rfl, D546⟩ := hr545
  refine HL_cons rfl ?_
  refine hel545 s541 rfl rfl Try.underlying178 tI209 ?_
  try dsimp only [putL, setL, evL, getL]
  refine HL_cons rfl ?_
  refine o_load' rfl Try.underlying209 rfl ((hh545 hH.bs.mono) 0 _ rfl) ?_
  try dsimp only [putL, setL, evL, getL]
  refine HL_cons rfl ?_
  refine o_assign ?_
  try dsimp only [putL, setL, evL, getL]
  refine HL_nil ?_
  refine hK544 _ _ ?_
  refine HT_seq_k ?_
  intro K547 hK547
  refine HT_seq_k ?_
  intro K548 hK548
  refine HT_region ?_
  refine HL_cons rfl ?_
  refine o_faddr' (ft := 3) (off := 0) rfl Try.underlying139 rfl tI3 (by decide) ?_
  try dsimp only [putL, setL, evL, getL]
  refine HL_cons rfl ?_
  refine o_load' rfl Try.underlying3 rfl (hH.hasv 0 rfl rfl) ?_
  try dsimp only [putL, setL, evL, getL]
  refine HL_nil ?_
  refine hK548 _ _ ?_
  refine HT_block ?_
  refine HT_seq_k ?_
  intro K549 hK549
  refine HT_region ?_
  refine HL_cons rfl ?_
  refine o_bin rfl rfl rfl ?_
  try dsimp only [putL, setL, evL, getL]
  refine HL_cons rfl ?_
  refine o_assign ?_
  try dsimp only [putL, setL, evL, getL]
  refine HL_nil ?_
  refine hK549 _ _ ?_
  rcases Bool.eq_false_or_eq_true (p5_0 == 4) with hb550 | hb550
  ·replace H := iteT hb550 H
   refine HT_true (congrArg Value.bool hb550) ?_
   refine HT_seq_k ?_
   intro K551 hK551
   refine HT_region ?_
   refine HL_cons rfl ?_
   refine o_move ?_
   try dsimp only [putL, setL, evL, getL]
   refine HL_cons rfl ?_
   refine o_move ?_
   try dsimp only [putL, setL, evL, getL]
   refine HL_cons rfl ?_
   refine o_move ?_
   try dsimp only [putL, setL, evL, getL]
   refine HL_cons rfl ?_
   refine o_bin rfl rfl rfl ?_
   try dsimp only [putL, setL, evL, getL]
   refine HL_cons rfl ?_
   refine o_move ?_
   try dsimp only [putL, setL, evL, getL]
   refine HL_cons rfl ?_
   refine o_bin rfl rfl rfl ?_
   try dsimp only [putL, setL, evL, getL]
   replace H := headE H
   obtain ⟨u552, hu552, H⟩ := H
   obtain ⟨b552, o552, cs552, hr552, hh552, hel552⟩ := Rd.elb D543 hu552
   obtain rfl := hr552
   refine HL_cons rfl ?_
   refine hel552 s541 rfl rfl Try.underlying209 tI4 ?_
   try dsimp only [putL, setL, evL, getL]
   refine HL_cons rfl ?_
   refine o_load' rfl Try.underlying4 rfl ((hh552 hH.bs.mono) 0 _ rfl) ?_
   try dsimp only [putL, setL, evL, getL]
   refine HL_cons rfl ?_
   refine o_move ?_
   try dsimp only [putL, setL, evL, getL]
   rcases Bool.eq_false_or_eq_true u552 with hb553 | hb553
   ·replace H := iteT hb553 H
    refine HL_skip ?_ ?_
    ·exact wantF (j := 8) (b := false) (t := 124) (c := u552) rfl rfl rfl rfl hb553
    try dsimp only [putL, setL, evL, getL]
    refine HL_skip ?_ ?_
    ·exact wantF (j := 8) (b := false) (t := 124) (c := u552) rfl rfl rfl rfl hb553
    try dsimp only [putL, setL, evL, getL]
    refine HL_skip ?_ ?_
    ·exact wantF (j := 8) (b := false) (t := 124) (c := u552) rfl rfl rfl rfl hb553
    try dsimp only [putL, setL, evL, getL]
    refine HL_skip ?_ ?_
    ·exact wantF (j := 8) (b := false) (t := 124) (c := u552) rfl rfl rfl rfl hb553
    try dsimp only [putL, setL, evL, getL]
    refine HL_skip ?_ ?_
    ·exact wantF (j := 8) (b := false) (t := 124) (c := u552) rfl rfl rfl rfl hb553
    try dsimp only [putL, setL, evL, getL]
    refine HL_skip ?_ ?_
    ·exact wantF (j := 8) (b := false) (t := 124) (c := u552) rfl rfl rfl rfl hb553
    try dsimp only [putL, setL, evL, getL]
    refine HL_skip ?_ ?_
    ·exact wantF (j := 8) (b := false) (t := 124) (c := u552) rfl rfl rfl rfl hb553
    try dsimp only [putL, setL, evL, getL]
    refine HL_skip ?_ ?_
    ·exact wantF (j := 8) (b := false) (t := 124) (c := u552) rfl rfl rfl rfl hb553
    try dsimp only [putL, setL, evL, getL]
    refine HL_cons rfl ?_
    refine o_pickT rfl hb553 ?_
    try dsimp only [putL, setL, evL, getL]
    refine HL_cons rfl ?_
    refine o_assign ?_
    try dsimp only [putL, setL, evL, getL]
    refine HL_nil ?_
    refine hK551 _ _ ?_
    refine HT_ret ?_
    exact hQr _ _ [.bool true] ⟨rfl, trivial⟩ (retH (fun r => spec_l5Cell.post sb s F0 r _ _) (show some _ = some r from H) ⟨rfl, hH.sel [] (by decide)⟩)
   ·replace H := iteF hb553 H
    refine HL_want ?_ ?_
    ·exact wantT (j := 8) (b := false) (t := 124) (c := u552) rfl rfl rfl rfl hb553
    refine o_move ?_
    try dsimp only [putL, setL, evL, getL]
    refine HL_want ?_ ?_
    ·exact wantT (j := 8) (b := false) (t := 124) (c := u552) rfl rfl rfl rfl hb553
    refine o_move ?_
    try dsimp only [putL, setL, evL, getL]
    refine HL_want ?_ ?_
    ·exact wantT (j := 8) (b := false) (t := 124) (c := u552) rfl rfl rfl rfl hb553
    refine o_move ?_
    try dsimp only [putL, setL, evL, getL]
    refine HL_want ?_ ?_
    ·exact wantT (j := 8) (b := false) (t := 124) (c := u552) rfl rfl rfl rfl hb553
    refine o_bin rfl rfl rfl ?_
    try dsimp only [putL, setL, evL, getL]
    refine HL_want ?_ ?_
    ·exact wantT (j := 8) (b := false) (t := 124) (c := u552) rfl rfl rfl rfl hb553
    refine o_move ?_
    try dsimp only [putL, setL, evL, getL]
    refine HL_want ?_ ?_
    ·exact wantT (j := 8) (b := false) (t := 124) (c := u552) rfl rfl rfl rfl hb553
    refine o_bin rfl rfl rfl ?_
    try dsimp only [putL, setL, evL, getL]
    replace H := headE H
    obtain ⟨u554, hu554, H⟩ := H
    obtain ⟨b554, o554, cs554, hr554, hh554, hel554⟩ := Rd.elb D546 hu554
    obtain rfl := hr554
    refine HL_want ?_ ?_
    ·exact wantT (j := 8) (b := false) (t := 124) (c := u552) rfl rfl rfl rfl hb553
    refine hel554 s541 rfl rfl Try.underlying209 tI4 ?_
    try dsimp only [putL, setL, evL, getL]
    refine HL_want ?_ ?_
    ·exact wantT (j := 8) (b := false) (t := 124) (c := u552) rfl rfl rfl rfl hb553
    refine o_load' rfl Try.underlying4 rfl ((hh554 hH.bs.mono) 0 _ rfl) ?_
    try dsimp only [putL, setL, evL, getL]
    refine HL_cons rfl ?_
    refine o_pickF rfl hb553 ?_
    try dsimp only [putL, setL, evL, getL]
    refine HL_cons rfl ?_
    refine o_assign ?_
    try dsimp only [putL, setL, evL, getL]
    refine HL_nil ?_
    refine hK551 _ _ ?_
    refine HT_ret ?_
    exact hQr _ _ [.bool u554] ⟨rfl, trivial⟩ (retH (fun r => spec_l5Cell.post sb s F0 r _ _) (show some _ = some r from H) ⟨rfl, hH.sel [] (by decide)⟩)
  ·replace H := iteF hb550 H
   refine HT_false (congrArg Value.bool hb550) ?_
   refine HT_seq_k ?_
   intro K555 hK555
   refine HT_region ?_
   refine HL_cons rfl ?_
   refine o_bin rfl rfl rfl ?_
   try dsimp only [putL, setL, evL, getL]
   refine HL_cons rfl ?_
   refine o_assign ?_
   try dsimp only [putL, setL, evL, getL]
   refine HL_nil ?_
   refine hK555 _ _ ?_
   rcases Bool.eq_false_or_eq_true (p5_0 == 5) with hb556 | hb556
   ·replace H := iteT hb556 H
    refine HT_true (congrArg Value.bool hb556) ?_
    refine HT_seq_k ?_
    intro K557 hK557
    refine HT_region ?_
    refine HL_cons rfl ?_
    refine o_move ?_
    try dsimp only [putL, setL, evL, getL]
    refine HL_cons rfl ?_
    refine o_move ?_
    try dsimp only [putL, setL, evL, getL]
    refine HL_cons rfl ?_
    refine o_move ?_
    try dsimp only [putL, setL, evL, getL]
    refine HL_cons rfl ?_
    refine o_bin rfl rfl rfl ?_
    try dsimp only [putL, setL, evL, getL]
    refine HL_cons rfl ?_
    refine o_move ?_
    try dsimp only [putL, setL, evL, getL]
    refine HL_cons rfl ?_
    refine o_bin rfl rfl rfl ?_
    try dsimp only [putL, setL, evL, getL]
    replace H := headE H
    obtain ⟨u558, hu558, H⟩ := H
    obtain ⟨b558, o558, cs558, hr558, hh558, hel558⟩ := Rd.elb D543 hu558
    obtain rfl := hr558
    refine HL_cons rfl ?_
    refine hel558 s541 rfl rfl Try.underlying209 tI4 ?_
    try dsimp only [putL, setL, evL, getL]
    refine HL_cons rfl ?_
    refine o_load' rfl Try.underlying4 rfl ((hh558 hH.bs.mono) 0 _ rfl) ?_
    try dsimp only [putL, setL, evL, getL]
    refine HL_cons rfl ?_
    refine o_move ?_
    try dsimp only [putL, setL, evL, getL]
    rcases Bool.eq_false_or_eq_true u558 with hb559 | hb559
    ·replace H := iteT hb559 H
     refine HL_want ?_ ?_
     ·exact wantT (j := 8) (b := true) (t := 144) (c := u558) rfl rfl rfl rfl hb559
     refine o_move ?_
     try dsimp only [putL, setL, evL, getL]
     refine HL_want ?_ ?_
     ·exact wantT (j := 8) (b := true) (t := 144) (c := u558) rfl rfl rfl rfl hb559
     refine o_move ?_
     try dsimp only [putL, setL, evL, getL]
     refine HL_want ?_ ?_
     ·exact wantT (j := 8) (b := true) (t := 144) (c := u558) rfl rfl rfl rfl hb559
     refine o_move ?_
     try dsimp only [putL, setL, evL, getL]
     refine HL_want ?_ ?_
     ·exact wantT (j := 8) (b := true) (t := 144) (c := u558) rfl rfl rfl rfl hb559
     refine o_bin rfl rfl rfl ?_
     try dsimp only [putL, setL, evL, getL]
     refine HL_want ?_ ?_
     ·exact wantT (j := 8) (b := true) (t := 144) (c := u558) rfl rfl rfl rfl hb559
     refine o_move ?_
     try dsimp only [putL, setL, evL, getL]
     refine HL_want ?_ ?_
     ·exact wantT (j := 8) (b := true) (t := 144) (c := u558) rfl rfl rfl rfl hb559
     refine o_bin rfl rfl rfl ?_
     try dsimp only [putL, setL, evL, getL]
     replace H := headE H
     obtain ⟨u560, hu560, H⟩ := H
     obtain ⟨b560, o560, cs560, hr560, hh560, hel560⟩ := Rd.elb D546 hu560
     obtain rfl := hr560
     refine HL_want ?_ ?_
     ·exact wantT (j := 8) (b := true) (t := 144) (c := u558) rfl rfl rfl rfl hb559
     refine hel560 s541 rfl rfl Try.underlying209 tI4 ?_
     try dsimp only [putL, setL, evL, getL]
     refine HL_want ?_ ?_
     ·exact wantT (j := 8) (b := true) (t := 144) (c := u558) rfl rfl rfl rfl hb559
     refine o_load' rfl Try.underlying4 rfl ((hh560 hH.bs.mono) 0 _ rfl) ?_
     try dsimp only [putL, setL, evL, getL]
     refine HL_cons rfl ?_
     refine o_pickT rfl hb559 ?_
     try dsimp only [putL, setL, evL, getL]
     refine HL_cons rfl ?_
     refine o_assign ?_
     try dsimp only [putL, setL, evL, getL]
     refine HL_nil ?_
     refine hK557 _ _ ?_
     refine HT_ret ?_
     exact hQr _ _ [.bool u560] ⟨rfl, trivial⟩ (retH (fun r => spec_l5Cell.post sb s F0 r _ _) (show some _ = some r from H) ⟨rfl, hH.sel [] (by decide)⟩)
    ·replace H := iteF hb559 H
     refine HL_skip ?_ ?_
     ·exact wantF (j := 8) (b := true) (t := 144) (c := u558) rfl rfl rfl rfl hb559
     try dsimp only [putL, setL, evL, getL]
     refine HL_skip ?_ ?_
     ·exact wantF (j := 8) (b := true) (t := 144) (c := u558) rfl rfl rfl rfl hb559
     try dsimp only [putL, setL, evL, getL]
     refine HL_skip ?_ ?_
     ·exact wantF (j := 8) (b := true) (t := 144) (c := u558) rfl rfl rfl rfl hb559
     try dsimp only [putL, setL, evL, getL]
     refine HL_skip ?_ ?_
     ·exact wantF (j := 8) (b := true) (t := 144) (c := u558) rfl rfl rfl rfl hb559
     try dsimp only [putL, setL, evL, getL]
     refine HL_skip ?_ ?_
     ·exact wantF (j := 8) (b := true) (t := 144) (c := u558) rfl rfl rfl rfl hb559
     try dsimp only [putL, setL, evL, getL]
     refine HL_skip ?_ ?_
     ·exact wantF (j := 8) (b := true) (t := 144) (c := u558) rfl rfl rfl rfl hb559
     try dsimp only [putL, setL, evL, getL]
     refine HL_skip ?_ ?_
     ·exact wantF (j := 8) (b := true) (t := 144) (c := u558) rfl rfl rfl rfl hb559
     try dsimp only [putL, setL, evL, getL]
     refine HL_skip ?_ ?_
     ·exact wantF (j := 8) (b := true) (t := 144) (c := u558) rfl rfl rfl rfl hb559
     try dsimp only [putL, setL, evL, getL]
     refine HL_cons rfl ?_
     refine o_pickF rfl hb559 ?_
     try dsimp only [putL, setL, evL, getL]
     refine HL_cons rfl ?_
     refine o_assign ?_
     try dsimp only [putL, setL, evL, getL]
     refine HL_nil ?_
     refine hK557 _ _ ?_
     refine HT_ret ?_
     exact hQr _ _ [.bool false] ⟨rfl, trivial⟩ (retH (fun r => spec_l5Cell.post sb s F0 r _ _) (show some _ = some r from H) ⟨rfl, hH.sel [] (by decide)⟩)
   ·replace H := iteF hb556 H
    refine HT_false (congrArg Value.bool hb556) ?_
    refine HT_skip ?_
    refine hK547 _ _ ?_
    refine HT_seq_k ?_
    intro K561 hK561
    refine HT_seq_k ?_
    intro K562 hK562
    refine HT_region ?_
    refine HL_cons rfl ?_
    refine o_move ?_
    try dsimp only [putL, setL, evL, getL]
    refine HL_cons rfl ?_
    refine o_assign ?_
    try dsimp only [putL, setL, evL, getL]
    refine HL_nil ?_
    refine hK562 _ _ ?_
    refine joinH H fun G563 hG563 H => ?_
    refine HT_toK (fun l' s' => G563 (.go ()) = some r ∧ l' = [.slice A0p p0.length c0p, .slice A1p p1.length c1p, .slice A2p p2.length c2p, .slice A3p p3.length c3p, .int .i64 p4, .agg #[.int .i64 p5_0, .slice A5_1p p5_1.length c5_1p], .int .i64 p6, .int .i64 p7, undef, undef, undef, undef, undef, .pointer (some ⟨b2, 0, none⟩), undef, undef, getL l' 16, .int .i64 (IntKind.i64.wrap ((p3.length : Int) + 1)), j18, .slice A543 u542.length c543, .slice A546 u545.length c546, getL l' 21, .slice A3p p3.length c3p, .int .i64 (p3.length : Int), .int .i64 (IntKind.i64.wrap ((p3.length : Int) + 1)), .pointer (some ⟨b2, 0 + 0, none⟩), .int .i64 p5_0, j27, j28, j29, j30, j31, j32, j33, j34, j35, j36, j37, j38, j39, j40, j41, j42, j43, j44, j45, j46, j47, j48, j49, j50, j51, j52, j53, j54, j55, j56, j57, j58, j59, j60, j61, j62, j63, j64, j65, j66, j67, j68, j69, j70, j71, j72, j73, j74, j75, j76, j77, j78, j79, j80, j81, j82, j83, j84, j85, j86, j87, j88, j89, j90, j91, j92, j93, j94, j95, j96, j97, j98, j99, j100, .slice A1p p1.length c1p, .slice A0p p0.length c0p, .int .i64 p4, .int .i64 u541, .pointer (some ⟨b542, o542, none⟩), .slice A543 u542.length c543, .slice A1p p1.length c1p, .int .i64 p4, .int .i64 (IntKind.i64.wrap (p4 - 1)), .pointer (some ⟨b545, o545, none⟩), .slice A546 u545.length c546, .pointer (some ⟨b2, 0 + 0, none⟩), .int .i64 p5_0, .bool (p5_0 == 4), .bool (p5_0 == 4), undef, undef, undef, undef, undef, undef, undef, undef, undef, undef, undef, undef, undef, undef, undef, undef, undef, undef, .bool (p5_0 == 5), .bool (p5_0 == 5), undef, undef, undef, undef, undef, undef, undef, undef, undef, undef, undef, undef, undef, undef, undef, undef, undef, undef, .int .i64 p6, getL l' 155, getL l' 156, getL l' 157, getL l' 158, getL l' 159, getL l' 160, getL l' 161, getL l' 162, getL l' 163, getL l' 164, getL l' 165, getL l' 166, getL l' 167, getL l' 168, getL l' 169, getL l' 170, getL l' 171, getL l' 172, getL l' 173, getL l' 174, getL l' 175, getL l' 176, getL l' 177] ∧ Hp sb s F0 s' []) ?_ ?_
    ·intro K563 hK563
     refine HT_block ?_
     refine HT_loopK (fun kf l' s' => ∃ (x675 : Int), (spec_l5Cell.l2 p3 p6 p7 u542 u545 kf x675).bind G563 = some r ∧ l' = [.slice A0p p0.length c0p, .slice A1p p1.length c1p, .slice A2p p2.length c2p, .slice A3p p3.length c3p, .int .i64 p4, .agg #[.int .i64 p5_0, .slice A5_1p p5_1.length c5_1p], .int .i64 p6, .int .i64 p7, undef, undef, undef, undef, undef, .pointer (some ⟨b2, 0, none⟩), undef, undef, getL l' 16, .int .i64 (IntKind.i64.wrap ((p3.length : Int) + 1)), j18, .slice A543 u542.length c543, .slice A546 u545.length c546, .int .i64 x675, .slice A3p p3.length c3p, .int .i64 (p3.length : Int), .int .i64 (IntKind.i64.wrap ((p3.length : Int) + 1)), .pointer (some ⟨b2, 0 + 0, none⟩), .int .i64 p5_0, j27, j28, j29, j30, j31, j32, j33, j34, j35, j36, j37, j38, j39, j40, j41, j42, j43, j44, j45, j46, j47, j48, j49, j50, j51, j52, j53, j54, j55, j56, j57, j58, j59, j60, j61, j62, j63, j64, j65, j66, j67, j68, j69, j70, j71, j72, j73, j74, j75, j76, j77, j78, j79, j80, j81, j82, j83, j84, j85, j86, j87, j88, j89, j90, j91, j92, j93, j94, j95, j96, j97, j98, j99, j100, .slice A1p p1.length c1p, .slice A0p p0.length c0p, .int .i64 p4, .int .i64 u541, .pointer (some ⟨b542, o542, none⟩), .slice A543 u542.length c543, .slice A1p p1.length c1p, .int .i64 p4, .int .i64 (IntKind.i64.wrap (p4 - 1)), .pointer (some ⟨b545, o545, none⟩), .slice A546 u545.length c546, .pointer (some ⟨b2, 0 + 0, none⟩), .int .i64 p5_0, .bool (p5_0 == 4), .bool (p5_0 == 4), undef, undef, undef, undef, undef, undef, undef, undef, undef, undef, undef, undef, undef, undef, undef, undef, undef, undef, .bool (p5_0 == 5), .bool (p5_0 == 5), undef, undef, undef, undef, undef, undef, undef, undef, undef, undef, undef, undef, undef, undef, undef, undef, undef, undef, .int .i64 p6, getL l' 155, getL l' 156, getL l' 157, getL l' 158, getL l' 159, getL l' 160, getL l' 161, getL l' 162, getL l' 163, getL l' 164, getL l' 165, getL l' 166, getL l' 167, getL l' 168, getL l' 169, getL l' 170, getL l' 171, getL l' 172, getL l' 173, getL l' 174, getL l' 175, getL l' 176, getL l' 177] ∧ Hp sb s F0 s' []) (((p7) - (p6)).toNat + 2) ⟨p6, H, rfl, hH.sel [] (by decide)⟩ ?_
     rintro kf l' s704 ⟨x675, H, hl, hH⟩ K704 hK704
     generalize getL l' 16 = j16, getL l' 155 = j155, getL l' 156 = j156, getL l' 157 = j157, getL l' 158 = j158, getL l' 159 = j159, getL l' 160 = j160, getL l' 161 = j161, getL l' 162 = j162, getL l' 163 = j163, getL l' 164 = j164, getL l' 165 = j165, getL l' 166 = j166, getL l' 167 = j167, getL l' 168 = j168, getL l' 169 = j169, getL l' 170 = j170, getL l' 171 = j171, getL l' 172 = j172, getL l' 173 = j173, getL l' 174 = j174, getL l' 175 = j175, getL l' 176 = j176, getL l' 177 = j177 at hl
     subst hl
     cases kf with
     | zero => simp [spec_l5Cell.l2] at H
     | succ kf =>
      rw [spec_l5Cell.l2] at H
      refine HT_seq_k ?_
      intro K705 hK705
      refine HT_seq_k ?_
      intro K706 hK706
      refine HT_region ?_
      refine HL_cons rfl ?_
      refine o_move ?_
      try dsimp only [putL, setL, evL, getL]
      refine HL_cons rfl ?_
      refine o_move ?_
      try dsimp only [putL, setL, evL, getL]
      refine HL_cons rfl ?_
      refine o_bin rfl rfl rfl ?_
      try dsimp only [putL, setL, evL, getL]
      refine HL_nil ?_
      refine hK706 _ _ ?_
      rcases Bool.eq_false_or_eq_true (decide (x675 ≤ p7)) with hb707 | hb707
      ·replace H := iteT hb707 H
       refine HT_true (congrArg Value.bool hb707) ?_
       refine HT_skip ?_
       refine hK705 _ _ ?_
       refine HT_seq_k ?_
       intro K720 hK720
       refine HT_block ?_
       refine joinH H fun G721 hG721 H => ?_
       refine HT_joinK (fun l' s' => ∃ (x725 : Bool), G721 x725 = some r ∧ l' = [.slice A0p p0.length c0p, .slice A1p p1.length c1p, .slice A2p p2.length c2p, .slice A3p p3.length c3p, .int .i64 p4, .agg #[.int .i64 p5_0, .slice A5_1p p5_1.length c5_1p], .int .i64 p6, .int .i64 p7, undef, undef, undef, undef, undef, .pointer (some ⟨b2, 0, none⟩), undef, undef, j16, .int .i64 (IntKind.i64.wrap ((p3.length : Int) + 1)), j18, .slice A543 u542.length c543, .slice A546 u545.length c546, .int .i64 x675, .slice A3p p3.length c3p, .int .i64 (p3.length : Int), .int .i64 (IntKind.i64.wrap ((p3.length : Int) + 1)), .pointer (some ⟨b2, 0 + 0, none⟩), .int .i64 p5_0, j27, j28, j29, j30, j31, j32, j33, j34, j35, j36, j37, j38, j39, j40, j41, j42, j43, j44, j45, j46, j47, j48, j49, j50, j51, j52, j53, j54, j55, j56, j57, j58, j59, j60, j61, j62, j63, j64, j65, j66, j67, j68, j69, j70, j71, j72, j73, j74, j75, j76, j77, j78, j79, j80, j81, j82, j83, j84, j85, j86, j87, j88, j89, j90, j91, j92, j93, j94, j95, j96, j97, j98, j99, j100, .slice A1p p1.length c1p, .slice A0p p0.length c0p, .int .i64 p4, .int .i64 u541, .pointer (some ⟨b542, o542, none⟩), .slice A543 u542.length c543, .slice A1p p1.length c1p, .int .i64 p4, .int .i64 (IntKind.i64.wrap (p4 - 1)), .pointer (some ⟨b545, o545, none⟩), .slice A546 u545.length c546, .pointer (some ⟨b2, 0 + 0, none⟩), .int .i64 p5_0, .bool (p5_0 == 4), .bool (p5_0 == 4), undef, undef, undef, undef, undef, undef, undef, undef, undef, undef, undef, undef, undef, undef, undef, undef, undef, undef, .bool (p5_0 == 5), .bool (p5_0 == 5), undef, undef, undef, undef, undef, undef, undef, undef, undef, undef, undef, undef, undef, undef, undef, undef, undef, undef, .int .i64 p6, .int .i64 x675, .int .i64 p7, .bool (decide (x675 ≤ p7)), j158, j159, getL l' 160, getL l' 161, getL l' 162, getL l' 163, getL l' 164, getL l' 165, getL l' 166, getL l' 167, getL l' 168, getL l' 169, getL l' 170, getL l' 171, getL l' 172, getL l' 173, getL l' 174, getL l' 175, getL l' 176, .bool x725] ∧ Hp sb s F0 s' []) ?_ ?_
       ·intro K721 hK721
        refine HT_region ?_
        refine HL_cons rfl ?_
        refine o_move ?_
        try dsimp only [putL, setL, evL, getL]
        refine HL_cons rfl ?_
        refine o_move ?_
        try dsimp only [putL, setL, evL, getL]
        refine HL_cons rfl ?_
        refine o_move ?_
        try dsimp only [putL, setL, evL, getL]
        refine HL_cons rfl ?_
        refine o_bin rfl rfl rfl ?_
        try dsimp only [putL, setL, evL, getL]
        refine HL_cons rfl ?_
        refine o_move ?_
        try dsimp only [putL, setL, evL, getL]
        refine HL_cons rfl ?_
        refine o_bin rfl rfl rfl ?_
        try dsimp only [putL, setL, evL, getL]
        replace H := headE H
        obtain ⟨u726, hu726, H⟩ := H
        obtain ⟨b726, o726, cs726, hr726, hh726, hel726⟩ := Rd.elb D543 hu726
        obtain rfl := hr726
        refine HL_cons rfl ?_
        refine hel726 s704 rfl rfl Try.underlying209 tI4 ?_
        try dsimp only [putL, setL, evL, getL]
        refine HL_cons rfl ?_
        refine o_load' rfl Try.underlying4 rfl ((hh726 hH.bs.mono) 0 _ rfl) ?_
        try dsimp only [putL, setL, evL, getL]
        refine HL_cons rfl ?_
        refine o_move ?_
        try dsimp only [putL, setL, evL, getL]
        rcases Bool.eq_false_or_eq_true u726 with hb727 | hb727
        ·replace H := iteT hb727 H
         refine HL_want ?_ ?_
         ·exact wantT (j := 8) (b := true) (t := 168) (c := u726) rfl rfl rfl rfl hb727
         refine o_move ?_
         try dsimp only [putL, setL, evL, getL]
         refine HL_want ?_ ?_
         ·exact wantT (j := 8) (b := true) (t := 168) (c := u726) rfl rfl rfl rfl hb727
         refine o_move ?_
         try dsimp only [putL, setL, evL, getL]
         refine HL_want ?_ ?_
         ·exact wantT (j := 8) (b := true) (t := 168) (c := u726) rfl rfl rfl rfl hb727
         refine o_move ?_
         try dsimp only [putL, setL, evL, getL]
         refine HL_want ?_ ?_
         ·exact wantT (j := 8) (b := true) (t := 168) (c := u726) rfl rfl rfl rfl hb727
         refine o_bin rfl rfl rfl ?_
         try dsimp only [putL, setL, evL, getL]
         refine HL_want ?_ ?_
         ·exact wantT (j := 8) (b := true) (t := 168) (c := u726) rfl rfl rfl rfl hb727
         refine o_move ?_
         try dsimp only [putL, setL, evL, getL]
         refine HL_want ?_ ?_
         ·exact wantT (j := 8) (b := true) (t := 168) (c := u726) rfl rfl rfl rfl hb727
         refine o_bin rfl rfl rfl ?_
         try dsimp only [putL, setL, evL, getL]
         replace H := headE H
         obtain ⟨u728, hu728, H⟩ := H
         obtain ⟨b728, o728, cs728, hr728, hh728, hel728⟩ := Rd.elb D546 hu728
         obtain rfl := hr728
         refine HL_want ?_ ?_
         ·exact wantT (j := 8) (b := true) (t := 168) (c := u726) rfl rfl rfl rfl hb727
         refine hel728 s704 rfl rfl Try.underlying209 tI4 ?_
         try dsimp only [putL, setL, evL, getL]
         refine HL_want ?_ ?_
         ·exact wantT (j := 8) (b := true) (t := 168) (c := u726) rfl rfl rfl rfl hb727
         refine o_load' rfl Try.underlying4 rfl ((hh728 hH.bs.mono) 0 _ rfl) ?_
         try dsimp only [putL, setL, evL, getL]
         refine HL_cons rfl ?_
         refine o_pickT rfl hb727 ?_
         try dsimp only [putL, setL, evL, getL]
         refine HL_nil ?_
         exact hK721 _ _ ⟨u728, H, rfl, hH⟩
        ·replace H := iteF hb727 H
         refine HL_skip ?_ ?_
         ·exact wantF (j := 8) (b := true) (t := 168) (c := u726) rfl rfl rfl rfl hb727
         try dsimp only [putL, setL, evL, getL]
         refine HL_skip ?_ ?_
         ·exact wantF (j := 8) (b := true) (t := 168) (c := u726) rfl rfl rfl rfl hb727
         try dsimp only [putL, setL, evL, getL]
         refine HL_skip ?_ ?_
         ·exact wantF (j := 8) (b := true) (t := 168) (c := u726) rfl rfl rfl rfl hb727
         try dsimp only [putL, setL, evL, getL]
         refine HL_skip ?_ ?_
         ·exact wantF (j := 8) (b := true) (t := 168) (c := u726) rfl rfl rfl rfl hb727
         try dsimp only [putL, setL, evL, getL]
         refine HL_skip ?_ ?_
         ·exact wantF (j := 8) (b := true) (t := 168) (c := u726) rfl rfl rfl rfl hb727
         try dsimp only [putL, setL, evL, getL]
         refine HL_skip ?_ ?_
         ·exact wantF (j := 8) (b := true) (t := 168) (c := u726) rfl rfl rfl rfl hb727
         try dsimp only [putL, setL, evL, getL]
         refine HL_skip ?_ ?_
         ·exact wantF (j := 8) (b := true) (t := 168) (c := u726) rfl rfl rfl rfl hb727
         try dsimp only [putL, setL, evL, getL]
         refine HL_skip ?_ ?_
         ·exact wantF (j := 8) (b := true) (t := 168) (c := u726) rfl rfl rfl rfl hb727
         try dsimp only [putL, setL, evL, getL]
         refine HL_cons rfl ?_
         refine o_pickF rfl hb727 ?_
         try dsimp only [putL, setL, evL, getL]
         refine HL_nil ?_
         exact hK721 _ _ ⟨false, H, rfl, hH⟩
       ·rintro l' s729 ⟨x725, H, hl, hH⟩
        generalize getL l' 160 = j160, getL l' 161 = j161, getL l' 162 = j162, getL l' 163 = j163, getL l' 164 = j164, getL l' 165 = j165, getL l' 166 = j166, getL l' 167 = j167, getL l' 168 = j168, getL l' 169 = j169, getL l' 170 = j170, getL l' 171 = j171, getL l' 172 = j172, getL l' 173 = j173, getL l' 174 = j174, getL l' 175 = j175, getL l' 176 = j176 at hl
        subst hl
        replace H := hG721 _ H
        try dsimp only at H
        rcases Bool.eq_false_or_eq_true x725 with hb730 | hb730
        ·replace H := iteT hb730 H
         refine HT_true (congrArg Value.bool hb730) ?_
         refine HT_seq_k ?_
         intro K731 hK731
         refine HT_region ?_
         refine HL_cons rfl ?_
         refine o_assign ?_
         try dsimp only [putL, setL, evL, getL]
         refine HL_nil ?_
         refine hK731 _ _ ?_
         refine HT_ret ?_
         replace H := escH (fun z hz => hG563 _ hz) H
         exact hQr _ _ [.bool true] ⟨rfl, trivial⟩ (retH (fun r => spec_l5Cell.post sb s F0 r _ _) (show some _ = some r from H) ⟨rfl, hH⟩)
        ·replace H := iteF hb730 H
         refine HT_false (congrArg Value.bool hb730) ?_
         refine HT_skip ?_
         refine hK720 _ _ ?_
         refine HT_region ?_
         refine HL_cons rfl ?_
         refine o_move ?_
         try dsimp only [putL, setL, evL, getL]
         refine HL_cons rfl ?_
         refine o_bin rfl rfl rfl ?_
         try dsimp only [putL, setL, evL, getL]
         refine HL_cons rfl ?_
         refine o_assign ?_
         try dsimp only [putL, setL, evL, getL]
         refine HL_nil ?_
         exact hK704 _ _ ⟨kf, Nat.lt_succ_self kf, IntKind.i64.wrap (x675 + 1), H, rfl, hH⟩
      ·replace H := iteF hb707 H
       refine HT_false (congrArg Value.bool hb707) ?_
       refine HT_exit ?_
       exact hK563 _ _ ⟨H, rfl, hH⟩
    ·rintro l' s732 ⟨H, hl, hH⟩
     generalize getL l' 16 = j16, getL l' 21 = j21, getL l' 155 = j155, getL l' 156 = j156, getL l' 157 = j157, getL l' 158 = j158, getL l' 159 = j159, getL l' 160 = j160, getL l' 161 = j161, getL l' 162 = j162, getL l' 163 = j163, getL l' 164 = j164, getL l' 165 = j165, getL l' 166 = j166, getL l' 167 = j167, getL l' 168 = j168, getL l' 169 = j169, getL l' 170 = j170, getL l' 171 = j171, getL l' 172 = j172, getL l' 173 = j173, getL l' 174 = j174, getL l' 175 = j175, getL l' 176 = j176, getL l' 177 = j177 at hl
     subst hl
     replace H := hG563 _ H
     try dsimp only at H
     refine hK561 _ _ ?_
     refine HT_seq_k ?_
     intro K733 hK733
     refine HT_region ?_
     refine HL_cons rfl ?_
     refine o_assign ?_
     try dsimp only [putL, setL, evL, getL]
     refine HL_nil ?_
     refine hK733 _ _ ?_
     refine HT_ret ?_
     exact hQr _ _ [.bool false] ⟨rfl, trivial⟩ (retH (fun r => spec_l5Cell.post sb s F0 r _ _) (show some _ = some r from H) ⟨rfl, hH⟩)
def spec_l5Table.l3 (p0 : List ((Int) × (List (Int)))) (p1 : List (Int)) (x5897 : List (List (Bool))) (x5898 : Int) (u8110 : (Int) × (List (Int))) (x8598 : Int) : Nat → (List (Bool)) → Int → Option (List (Bool))
 | 0, _, _ => none
 | kf + 1, x8817, x8818 => if (decide (x8818 < (IntKind.i64.wrap ((p1.length : Int) + 1)))) = true then ((spec_l5Cell.f p0 x5897 x8817 p1 x5898 u8110.1 u8110.2 x8598 x8818).bind fun u8833 => (rd? x8817 (IntKind.i64.wrap ((IntKind.i64.wrap (x8598 * (IntKind.i64.wrap ((p1.length : Int) + 1)))) + x8818))).bind fun u8834 => (st? x8817 (IntKind.i64.wrap ((IntKind.i64.wrap (x8598 * (IntKind.i64.wrap ((p1.length : Int) + 1)))) + x8818)) u8833).bind fun x8835 => spec_l5Table.l3 p0 p1 x5897 x5898 u8110 x8598 kf x8835 (IntKind.i64.wrap (x8818 + 1))) else (some x8817)
def spec_l5Table.l2 (p0 : List ((Int) × (List (Int)))) (p1 : List (Int)) (x5897 : List (List (Bool))) (x5898 : Int) (u8110 : (Int) × (List (Int))) : Nat → (List (Bool)) → Int → Option (List (Bool))
 | 0, _, _ => none
 | kf + 1, x8597, x8598 => if (decide (x8598 ≥ 0)) = true then (((spec_l5Table.l3 p0 p1 x5897 x5898 u8110 x8598 (((IntKind.i64.wrap ((p1.length : Int) + 1)) - (x8598)).toNat + 2) x8597 x8598).bind fun (o : (List (Bool))) => match o with | x8809 => (some x8809)).bind fun (o : (List (Bool))) => match o with | x8780 => (spec_l5Table.l2 p0 p1 x5897 x5898 u8110 kf x8780 (IntKind.i64.wrap (x8598 - 1)))) else (some x8597)
def spec_l5Table.l1 (p0 : List ((Int) × (List (Int)))) (p1 : List (Int)) : Nat → (List (List (Bool))) → Int → Option (List (List (Bool)))
 | 0, _, _ => none
 | kf + 1, x5897, x5898 => if (decide (x5898 < (p0.length : Int))) = true then (((rd? p0 x5898).bind fun u8110 => (mk? 140737488355328 false (IntKind.i64.wrap ((IntKind.i64.wrap ((p1.length : Int) + 1)) * (IntKind.i64.wrap ((p1.length : Int) + 1))))).bind fun x8115 => (spec_l5Table.l2 p0 p1 x5897 x5898 u8110 (((IntKind.i64.wrap ((IntKind.i64.wrap ((p1.length : Int) + 1)) - 1)) - (0)).toNat + 2) x8115 (IntKind.i64.wrap ((IntKind.i64.wrap ((p1.length : Int) + 1)) - 1))).bind fun (o : (List (Bool))) => match o with | x8478 => ((app? 5864062014805 x5897 [x8478]).bind fun x8840 => some x8840)).bind fun (o : (List (List (Bool)))) => match o with | x8108 => (spec_l5Table.l1 p0 p1 kf x8108 (IntKind.i64.wrap (x5898 + 1)))) else (some x5897)
def spec_l5Table.f (p0 : List ((Int) × (List (Int)))) (p1 : List (Int)) : Option (List (List (Bool))) := (spec_l5Table.l1 p0 p1 ((((p0.length : Int)) - (0)).toNat + 2) [] 0).bind fun (o : (List (List (Bool)))) => match o with | x4424 => (some x4424)
def spec_l5Table.post (sb s : St) (F0 : Fp) (r : (List (List (Bool)))) : Value → St → Prop := fun v s' => ∃ (A0 : Option Addr) (c0 : Nat), v = .slice A0 r.length c0 ∧ Hp sb s F0 s' [Ck.ol (Ow.sl (Ow.flat Kd.bool_flat) 4) 209 A0 c0 r]
set_option maxRecDepth 100000 in
set_option maxHeartbeats 4000000 in
theorem spec_l5Table.ok (sb s : St) (F0 : Fp) (A0p : Option Addr) (c0p : Nat) (p0 : List ((Int) × (List (Int)))) (A1p : Option Addr) (c1p : Nat) (p1 : List (Int)) (HRp0 : Rd KS139 sb A0p c0p p0) (HRp1 : Rd KI sb A1p c1p p1) (hH : Hp sb s F0 s []) (r : (List (List (Bool)))) (H : spec_l5Table.f p0 p1 = some r) : GCall Try.prog 176 #[.slice A0p p0.length c0p, .slice A1p p1.length c1p] s (spec_l5Table.post sb s F0 r) := by
 refine GCall_ofk [.tmp 4] [.slice A0p p0.length c0p, .slice A1p p1.length c1p, undef, undef, undef, undef, undef, undef, undef, undef, undef, undef, undef, undef, undef, undef, undef, undef, undef, undef, undef, undef, undef, undef, undef, undef, undef, undef, undef, undef, undef, undef, undef, undef, undef, undef, undef, undef, undef, undef, undef, undef, undef, undef, undef, undef, undef, undef, undef, undef, undef, undef, undef, undef, undef, undef, undef, undef, undef, undef] Try.func176 rfl rfl rfl ?_
 intro w Q hQr hQn hQp
 replace H := topE H
 unfold spec_l5Table.f at H
 refine HT_seq_k ?_
 intro K1 hK1
 refine HT_region ?_
 refine HL_cons rfl ?_
 refine o_assign ?_
 try dsimp only [putL, setL, evL, getL]
 refine HL_nil ?_
 refine hK1 _ _ ?_
 refine HT_seq_k ?_
 intro K2 hK2
 refine HT_region ?_
 refine HL_cons rfl ?_
 refine o_move ?_
 try dsimp only [putL, setL, evL, getL]
 refine HL_cons rfl ?_
 refine o_len rfl Try.underlying24 ?_
 try dsimp only [putL, setL, evL, getL]
 refine HL_cons rfl ?_
 refine o_bin rfl rfl rfl ?_
 try dsimp only [putL, setL, evL, getL]
 refine HL_cons rfl ?_
 refine o_assign ?_
 try dsimp only [putL, setL, evL, getL]
 refine HL_nil ?_
 refine hK2 _ _ ?_
 refine HT_seq_k ?_
 intro K3 hK3
 refine HT_region ?_
 refine HL_cons rfl ?_
 refine o_assign ?_
 try dsimp only [putL, setL, evL, getL]
 refine HL_nil ?_
 refine hK3 _ _ ?_
 refine HT_seq_k ?_
 intro K4 hK4
 refine HT_seq_k ?_
 intro K5 hK5
 refine HT_region ?_
 refine HL_cons rfl ?_
 refine o_move ?_
 try dsimp only [putL, setL, evL, getL]
 refine HL_cons rfl ?_
 refine o_len rfl Try.underlying57 ?_
 try dsimp only [putL, setL, evL, getL]
 refine HL_cons rfl ?_
 refine o_move ?_
 try dsimp only [putL, setL, evL, getL]
 refine HL_nil ?_
 refine hK5 _ _ ?_
 refine joinH H fun G6 hG6 H => ?_
 refine HT_toK (fun l' s' => ∃ (x4424 : List (List (Bool))) (A4424 : Option Addr) (c4424 : Nat), G6 x4424 = some r ∧ l' = [.slice A0p p0.length c0p, .slice A1p p1.length c1p, undef, undef, .slice none 0 0, .int .i64 (IntKind.i64.wrap ((p1.length : Int) + 1)), .slice A4424 x4424.length c4424, getL l' 7, getL l' 8, getL l' 9, getL l' 10, getL l' 11, .slice A1p p1.length c1p, .int .i64 (p1.length : Int), .int .i64 (IntKind.i64.wrap ((p1.length : Int) + 1)), .slice A0p p0.length c0p, .int .i64 (p0.length : Int), getL l' 17, getL l' 18, getL l' 19, getL l' 20, getL l' 21, getL l' 22, getL l' 23, getL l' 24, getL l' 25, getL l' 26, getL l' 27, getL l' 28, getL l' 29, getL l' 30, getL l' 31, getL l' 32, getL l' 33, getL l' 34, getL l' 35, getL l' 36, getL l' 37, getL l' 38, getL l' 39, getL l' 40, getL l' 41, getL l' 42, getL l' 43, getL l' 44, getL l' 45, getL l' 46, getL l' 47, getL l' 48, getL l' 49, getL l' 50, getL l' 51, getL l' 52, getL l' 53, getL l' 54, getL l' 55, getL l' 56, getL l' 57, getL l' 58, undef] ∧ Hp sb s F0 s' [Ck.ol (Ow.sl (Ow.flat Kd.bool_flat) 4) 209 A4424 c4424 x4424]) ?_ ?_
 ·intro K6 hK6
  refine HT_block ?_
  refine HT_loopK (fun kf l' s' => ∃ (x5897 : List (List (Bool))) (A5897 : Option Addr) (c5897 : Nat) (x5898 : Int), (spec_l5Table.l1 p0 p1 kf x5897 x5898).bind G6 = some r ∧ l' = [.slice A0p p0.length c0p, .slice A1p p1.length c1p, undef, undef, .slice none 0 0, .int .i64 (IntKind.i64.wrap ((p1.length : Int) + 1)), .slice A5897 x5897.length c5897, getL l' 7, getL l' 8, getL l' 9, getL l' 10, getL l' 11, .slice A1p p1.length c1p, .int .i64 (p1.length : Int), .int .i64 (IntKind.i64.wrap ((p1.length : Int) + 1)), .slice A0p p0.length c0p, .int .i64 (p0.length : Int), .int .i64 x5898, getL l' 18, getL l' 19, getL l' 20, getL l' 21, getL l' 22, getL l' 23, getL l' 24, getL l' 25, getL l' 26, getL l' 27, getL l' 28, getL l' 29, getL l' 30, getL l' 31, getL l' 32, getL l' 33, getL l' 34, getL l' 35, getL l' 36, getL l' 37, getL l' 38, getL l' 39, getL l' 40, getL l' 41, getL l' 42, getL l' 43, getL l' 44, getL l' 45, getL l' 46, getL l' 47, getL l' 48, getL l' 49, getL l' 50, getL l' 51, getL l' 52, getL l' 53, getL l' 54, getL l' 55, getL l' 56, getL l' 57, getL l' 58, undef] ∧ Hp sb s F0 s' [Ck.ol (Ow.sl (Ow.flat Kd.bool_flat) 4) 209 A5897 c5897 x5897]) ((((p0.length : Int)) - (0)).toNat + 2) ⟨[], none, 0, 0, H, rfl, (hH.nil (K := (Kd.sl Kd.bool)) (Ow.sl (Ow.flat Kd.bool_flat) 4) 209)⟩ ?_
  rintro kf l' s7371 ⟨x5897, A5897, c5897, x5898, H, hl, hH⟩ K7371 hK7371
  generalize getL l' 7 = j7, getL l' 8 = j8, getL l' 9 = j9, getL l' 10 = j10, getL l' 11 = j11, getL l' 18 = j18, getL l' 19 = j19, getL l' 20 = j20, getL l' 21 = j21, getL l' 22 = j22, getL l' 23 = j23, getL l' 24 = j24, getL l' 25 = j25, getL l' 26 = j26, getL l' 27 = j27, getL l' 28 = j28, getL l' 29 = j29, getL l' 30 = j30, getL l' 31 = j31, getL l' 32 = j32, getL l' 33 = j33, getL l' 34 = j34, getL l' 35 = j35, getL l' 36 = j36, getL l' 37 = j37, getL l' 38 = j38, getL l' 39 = j39, getL l' 40 = j40, getL l' 41 = j41, getL l' 42 = j42, getL l' 43 = j43, getL l' 44 = j44, getL l' 45 = j45, getL l' 46 = j46, getL l' 47 = j47, getL l' 48 = j48, getL l' 49 = j49, getL l' 50 = j50, getL l' 51 = j51, getL l' 52 = j52, getL l' 53 = j53, getL l' 54 = j54, getL l' 55 = j55, getL l' 56 = j56, getL l' 57 = j57, getL l' 58 = j58 at hl
  subst hl
  cases kf with
  | zero => simp [spec_l5Table.l1] at H
  | succ kf =>
   rw [spec_l5Table.l1] at H
   refine HT_seq_k ?_
   intro K7372 hK7372
   refine HT_region ?_
   refine HL_cons rfl ?_
   refine o_bin rfl rfl rfl ?_
   try dsimp only [putL, setL, evL, getL]
   refine HL_nil ?_
   refine hK7372 _ _ ?_
   refine HT_seq_k ?_
   intro K7373 hK7373
   rcases Bool.eq_false_or_eq_true (decide (x5898 < (p0.length : Int))) with hb7374 | hb7374
   ·replace H := iteT hb7374 H
    refine HT_true (congrArg Value.bool hb7374) ?_
    refine HT_skip ?_
    refine hK7373 _ _ ?_
    refine joinH H fun G7375 hG7375 H => ?_
    refine HT_joinK (fun l' s' => ∃ (x8108 : List (List (Bool))) (A8108 : Option Addr) (c8108 : Nat), G7375 x8108 = some r ∧ l' = [.slice A0p p0.length c0p, .slice A1p p1.length c1p, undef, undef, .slice none 0 0, .int .i64 (IntKind.i64.wrap ((p1.length : Int) + 1)), .slice A8108 x8108.length c8108, getL l' 7, getL l' 8, getL l' 9, getL l' 10, getL l' 11, .slice A1p p1.length c1p, .int .i64 (p1.length : Int), .int .i64 (IntKind.i64.wrap ((p1.length : Int) + 1)), .slice A0p p0.length c0p, .int .i64 (p0.length : Int), .int .i64 x5898, .bool (decide (x5898 < (p0.length : Int))), getL l' 19, getL l' 20, getL l' 21, getL l' 22, getL l' 23, getL l' 24, getL l' 25, getL l' 26, getL l' 27, getL l' 28, getL l' 29, getL l' 30, getL l' 31, getL l' 32, getL l' 33, getL l' 34, getL l' 35, getL l' 36, getL l' 37, getL l' 38, getL l' 39, getL l' 40, getL l' 41, getL l' 42, getL l' 43, getL l' 44, getL l' 45, getL l' 46, getL l' 47, getL l' 48, getL l' 49, getL l' 50, getL l' 51, getL l' 52, getL l' 53, getL l' 54, getL l' 55, getL l' 56, getL l' 57, j58, undef] ∧ Hp sb s F0 s' [Ck.ol (Ow.sl (Ow.flat Kd.bool_flat) 4) 209 A8108 c8108 x8108]) ?_ ?_
    ·intro K7375 hK7375
     refine HT_block ?_
     refine HT_seq_k ?_
     intro K8109 hK8109
     refine HT_region ?_
     refine HL_cons rfl ?_
     refine o_move ?_
     try dsimp only [putL, setL, evL, getL]
     replace H := headE H
     obtain ⟨u8110, hu8110, H⟩ := H
     obtain ⟨b8110, o8110, cs8110, hr8110, hh8110, hel8110⟩ := Rd.elb HRp0 hu8110
     obtain ⟨_, _, rfl, rfl, ⟨A8111, c8111, rfl, D8111⟩⟩ := hr8110
     refine HL_cons rfl ?_
     refine hel8110 s7371 rfl rfl Try.underlying57 tI139 ?_
     try dsimp only [putL, setL, evL, getL]
     refine HL_cons rfl ?_
     refine o_loads' [.int .i64 u8110.1, .slice A8111 u8110.2.length c8111] rfl Try.underlying139 rfl tI139 rfl (fun j v hj => (hh8110 hH.bs.mono) j v hj) ?_
     try dsimp only [putL, setL, evL, getL]
     refine HL_cons rfl ?_
     refine o_allocH hH tI139 ?_
     intro b8112 s8112 hH' hG
     replace hH : Hp sb s F0 s8112 [Ck.ol (Ow.sl (Ow.flat Kd.bool_flat) 4) 209 A5897 c5897 x5897, Ck.ov b8112 [.int .i64 0, .slice none 0 0] 139] := hH'
     clear hH' hG
     try dsimp only [putL, setL, evL, getL]
     refine HL_cons rfl ?_
     refine o_assign ?_
     try dsimp only [putL, setL, evL, getL]
     refine HL_cons rfl ?_
     refine o_stvH (vs := [.int .i64 u8110.1, .slice A8111 u8110.2.length c8111]) (us' := [.int .i64 u8110.1, .slice A8111 u8110.2.length c8111]) hH 1 rfl rfl rfl rfl rfl tI139 rfl (List.cons_ne_nil _ _) rfl rfl rfl ?_
     intro s8113 hH'
     replace hH : Hp sb s F0 s8113 [Ck.ol (Ow.sl (Ow.flat Kd.bool_flat) 4) 209 A5897 c5897 x5897, Ck.ov b8112 [.int .i64 u8110.1, .slice A8111 u8110.2.length c8111] 139] := hH'
     clear hH'
     try dsimp only [putL, setL, evL, getL]
     refine HL_nil ?_
     refine hK8109 _ _ ?_
     refine HT_seq_k ?_
     intro K8114 hK8114
     refine HT_region ?_
     refine HL_cons rfl ?_
     refine o_move ?_
     try dsimp only [putL, setL, evL, getL]
     refine HL_cons rfl ?_
     refine o_move ?_
     try dsimp only [putL, setL, evL, getL]
     refine HL_cons rfl ?_
     refine o_bin rfl rfl rfl ?_
     try dsimp only [putL, setL, evL, getL]
     replace H := headE H
     obtain ⟨x8115, hx8115, H⟩ := H
     refine HL_cons rfl ?_
     refine o_makeH (K := Kd.bool) (O := (Ow.flat Kd.bool_flat)) (x0 := false) hH rfl Try.underlying209 tI4 rfl (by decide) (by decide) (by decide) (Own0.fl fun _ => rfl) hx8115 ?_
     intro A8115 c8115 s8115 hH' hG
     replace hH : Hp sb s F0 s8115 [Ck.ol (Ow.sl (Ow.flat Kd.bool_flat) 4) 209 A5897 c5897 x5897, Ck.ov b8112 [.int .i64 u8110.1, .slice A8111 u8110.2.length c8111] 139, Ck.ol (Ow.flat Kd.bool_flat) 4 A8115 c8115 x8115] := hH'
     clear hH' hG
     try dsimp only [putL, setL, evL, getL]
     refine HL_cons rfl ?_
     refine o_assign ?_
     try dsimp only [putL, setL, evL, getL]
     refine HL_nil ?_
     refine hK8114 _ _ ?_
     refine HT_seq_k ?_
     intro K8116 hK8116
     refine HT_seq_k ?_
     intro K8117 hK8117
     refine HT_region ?_
     refine HL_cons rfl ?_
     refine o_move ?_
     try dsimp only [putL, setL, evL, getL]
     refine HL_cons rfl ?_
     refine o_bin rfl rfl rfl ?_
     try dsimp only [putL, setL, evL, getL]
     refine HL_cons rfl ?_
     refine o_assign ?_
     try dsimp only [putL, setL, evL, getL]
     refine HL_nil ?_
     refine hK8117 _ _ ?_
     refine joinH H fun G8118 hG8118 H => ?_
     refine HT_toK (fun l' s' => ∃ (x8478 : List (Bool)), G8118 x8478 = some r ∧ l' = [.slice A0p p0.length c0p, .slice A1p p1.length c1p, undef, undef, .slice none 0 0, .int .i64 (IntKind.i64.wrap ((p1.length : Int) + 1)), .slice A5897 x5897.length c5897, .int .i64 x5898, .pointer (some ⟨b8112, 0, none⟩), .slice A8115 x8115.length c8115, getL l' 10, getL l' 11, .slice A1p p1.length c1p, .int .i64 (p1.length : Int), .int .i64 (IntKind.i64.wrap ((p1.length : Int) + 1)), .slice A0p p0.length c0p, .int .i64 (p0.length : Int), .int .i64 x5898, .bool (decide (x5898 < (p0.length : Int))), .int .i64 x5898, .pointer (some ⟨b8110, o8110, none⟩), .agg #[.int .i64 u8110.1, .slice A8111 u8110.2.length c8111], .int .i64 (IntKind.i64.wrap ((p1.length : Int) + 1)), .int .i64 (IntKind.i64.wrap ((p1.length : Int) + 1)), .int .i64 (IntKind.i64.wrap ((IntKind.i64.wrap ((p1.length : Int) + 1)) * (IntKind.i64.wrap ((p1.length : Int) + 1)))), .slice A8115 x8115.length c8115, .int .i64 (IntKind.i64.wrap ((p1.length : Int) + 1)), .int .i64 (IntKind.i64.wrap ((IntKind.i64.wrap ((p1.length : Int) + 1)) - 1)), getL l' 28, getL l' 29, getL l' 30, getL l' 31, getL l' 32, getL l' 33, getL l' 34, getL l' 35, getL l' 36, getL l' 37, getL l' 38, getL l' 39, getL l' 40, getL l' 41, getL l' 42, getL l' 43, getL l' 44, getL l' 45, getL l' 46, getL l' 47, getL l' 48, getL l' 49, getL l' 50, getL l' 51, getL l' 52, getL l' 53, j54, j55, j56, j57, j58, undef] ∧ Hp sb s F0 s' [Ck.ol (Ow.sl (Ow.flat Kd.bool_flat) 4) 209 A5897 c5897 x5897, Ck.ol (Ow.flat Kd.bool_flat) 4 A8115 c8115 x8478] ∧ x8478.length = x8115.length) ?_ ?_
     ·intro K8118 hK8118
      refine HT_block ?_
      refine HT_loopK (fun kf l' s' => ∃ (x8597 : List (Bool)) (x8598 : Int), (spec_l5Table.l2 p0 p1 x5897 x5898 u8110 kf x8597 x8598).bind G8118 = some r ∧ l' = [.slice A0p p0.length c0p, .slice A1p p1.length c1p, undef, undef, .slice none 0 0, .int .i64 (IntKind.i64.wrap ((p1.length : Int) + 1)), .slice A5897 x5897.length c5897, .int .i64 x5898, .pointer (some ⟨b8112, 0, none⟩), .slice A8115 x8115.length c8115, .int .i64 x8598, getL l' 11, .slice A1p p1.length c1p, .int .i64 (p1.length : Int), .int .i64 (IntKind.i64.wrap ((p1.length : Int) + 1)), .slice A0p p0.length c0p, .int .i64 (p0.length : Int), .int .i64 x5898, .bool (decide (x5898 < (p0.length : Int))), .int .i64 x5898, .pointer (some ⟨b8110, o8110, none⟩), .agg #[.int .i64 u8110.1, .slice A8111 u8110.2.length c8111], .int .i64 (IntKind.i64.wrap ((p1.length : Int) + 1)), .int .i64 (IntKind.i64.wrap ((p1.length : Int) + 1)), .int .i64 (IntKind.i64.wrap ((IntKind.i64.wrap ((p1.length : Int) + 1)) * (IntKind.i64.wrap ((p1.length : Int) + 1)))), .slice A8115 x8115.length c8115, .int .i64 (IntKind.i64.wrap ((p1.length : Int) + 1)), .int .i64 (IntKind.i64.wrap ((IntKind.i64.wrap ((p1.length : Int) + 1)) - 1)), getL l' 28, getL l' 29, getL l' 30, getL l' 31, getL l' 32, getL l' 33, getL l' 34, getL l' 35, getL l' 36, getL l' 37, getL l' 38, getL l' 39, getL l' 40, getL l' 41, getL l' 42, getL l' 43, getL l' 44, getL l' 45, getL l' 46, getL l' 47, getL l' 48, getL l' 49, getL l' 50, getL l' 51, getL l' 52, getL l' 53, j54, j55, j56, j57, j58, undef] ∧ Hp sb s F0 s' [Ck.ol (Ow.sl (Ow.flat Kd.bool_flat) 4) 209 A5897 c5897 x5897, Ck.ol (Ow.flat Kd.bool_flat) 4 A8115 c8115 x8597, Ck.ov b8112 [.int .i64 u8110.1, .slice A8111 u8110.2.length c8111] 139] ∧ x8597.length = x8115.length) (((IntKind.i64.wrap ((IntKind.i64.wrap ((p1.length : Int) + 1)) - 1)) - (0)).toNat + 2) ⟨x8115, IntKind.i64.wrap ((IntKind.i64.wrap ((p1.length : Int) + 1)) - 1), H, rfl, hH.sel [0, 2, 1] (by decide), rfl⟩ ?_
      rintro kf l' s8719 ⟨x8597, x8598, H, hl, hH, hl8597⟩ K8719 hK8719
      generalize getL l' 11 = j11, getL l' 28 = j28, getL l' 29 = j29, getL l' 30 = j30, getL l' 31 = j31, getL l' 32 = j32, getL l' 33 = j33, getL l' 34 = j34, getL l' 35 = j35, getL l' 36 = j36, getL l' 37 = j37, getL l' 38 = j38, getL l' 39 = j39, getL l' 40 = j40, getL l' 41 = j41, getL l' 42 = j42, getL l' 43 = j43, getL l' 44 = j44, getL l' 45 = j45, getL l' 46 = j46, getL l' 47 = j47, getL l' 48 = j48, getL l' 49 = j49, getL l' 50 = j50, getL l' 51 = j51, getL l' 52 = j52, getL l' 53 = j53 at hl
      subst hl
      cases kf with
      | zero => simp [spec_l5Table.l2] at H
      | succ kf =>
       rw [spec_l5Table.l2] at H
       refine HT_seq_k ?_
       intro K8720 hK8720
       refine HT_seq_k ?_
       intro K8721 hK8721
       refine HT_region ?_
       refine HL_cons rfl ?_
       refine o_move ?_
       try dsimp only [putL, setL, evL, getL]
       refine HL_cons rfl ?_
       refine o_bin rfl rfl rfl ?_
       try dsimp only [putL, setL, evL, getL]
       refine HL_nil ?_
       refine hK8721 _ _ ?_
       rcases Bool.eq_false_or_eq_true (decide (x8598 ≥ 0)) with hb8722 | hb8722
       ·replace H := iteT hb8722 H
        refine HT_true (congrArg Value.bool hb8722) ?_
        refine HT_skip ?_
        refine hK8720 _ _ ?_
        refine joinH H fun G8723 hG8723 H => ?_
        refine HT_joinK (fun l' s' => ∃ (x8780 : List (Bool)), G8723 x8780 = some r ∧ l' = [.slice A0p p0.length c0p, .slice A1p p1.length c1p, undef, undef, .slice none 0 0, .int .i64 (IntKind.i64.wrap ((p1.length : Int) + 1)), .slice A5897 x5897.length c5897, .int .i64 x5898, .pointer (some ⟨b8112, 0, none⟩), .slice A8115 x8115.length c8115, .int .i64 x8598, getL l' 11, .slice A1p p1.length c1p, .int .i64 (p1.length : Int), .int .i64 (IntKind.i64.wrap ((p1.length : Int) + 1)), .slice A0p p0.length c0p, .int .i64 (p0.length : Int), .int .i64 x5898, .bool (decide (x5898 < (p0.length : Int))), .int .i64 x5898, .pointer (some ⟨b8110, o8110, none⟩), .agg #[.int .i64 u8110.1, .slice A8111 u8110.2.length c8111], .int .i64 (IntKind.i64.wrap ((p1.length : Int) + 1)), .int .i64 (IntKind.i64.wrap ((p1.length : Int) + 1)), .int .i64 (IntKind.i64.wrap ((IntKind.i64.wrap ((p1.length : Int) + 1)) * (IntKind.i64.wrap ((p1.length : Int) + 1)))), .slice A8115 x8115.length c8115, .int .i64 (IntKind.i64.wrap ((p1.length : Int) + 1)), .int .i64 (IntKind.i64.wrap ((IntKind.i64.wrap ((p1.length : Int) + 1)) - 1)), .int .i64 x8598, .bool (decide (x8598 ≥ 0)), j30, j31, getL l' 32, getL l' 33, getL l' 34, getL l' 35, getL l' 36, getL l' 37, getL l' 38, getL l' 39, getL l' 40, getL l' 41, getL l' 42, getL l' 43, getL l' 44, getL l' 45, getL l' 46, getL l' 47, getL l' 48, getL l' 49, getL l' 50, getL l' 51, getL l' 52, getL l' 53, j54, j55, j56, j57, j58, undef] ∧ Hp sb s F0 s' [Ck.ol (Ow.sl (Ow.flat Kd.bool_flat) 4) 209 A5897 c5897 x5897, Ck.ol (Ow.flat Kd.bool_flat) 4 A8115 c8115 x8780, Ck.ov b8112 [.int .i64 u8110.1, .slice A8111 u8110.2.length c8111] 139] ∧ x8780.length = x8115.length) ?_ ?_
        ·intro K8723 hK8723
         refine HT_block ?_
         refine HT_seq_k ?_
         intro K8781 hK8781
         refine HT_region ?_
         refine HL_cons rfl ?_
         refine o_move ?_
         try dsimp only [putL, setL, evL, getL]
         refine HL_cons rfl ?_
         refine o_assign ?_
         try dsimp only [putL, setL, evL, getL]
         refine HL_nil ?_
         refine hK8781 _ _ ?_
         refine joinH H fun G8782 hG8782 H => ?_
         refine HT_toK (fun l' s' => ∃ (x8809 : List (Bool)), G8782 x8809 = some r ∧ l' = [.slice A0p p0.length c0p, .slice A1p p1.length c1p, undef, undef, .slice none 0 0, .int .i64 (IntKind.i64.wrap ((p1.length : Int) + 1)), .slice A5897 x5897.length c5897, .int .i64 x5898, .pointer (some ⟨b8112, 0, none⟩), .slice A8115 x8115.length c8115, .int .i64 x8598, getL l' 11, .slice A1p p1.length c1p, .int .i64 (p1.length : Int), .int .i64 (IntKind.i64.wrap ((p1.length : Int) + 1)), .slice A0p p0.length c0p, .int .i64 (p0.length : Int), .int .i64 x5898, .bool (decide (x5898 < (p0.length : Int))), .int .i64 x5898, .pointer (some ⟨b8110, o8110, none⟩), .agg #[.int .i64 u8110.1, .slice A8111 u8110.2.length c8111], .int .i64 (IntKind.i64.wrap ((p1.length : Int) + 1)), .int .i64 (IntKind.i64.wrap ((p1.length : Int) + 1)), .int .i64 (IntKind.i64.wrap ((IntKind.i64.wrap ((p1.length : Int) + 1)) * (IntKind.i64.wrap ((p1.length : Int) + 1)))), .slice A8115 x8115.length c8115, .int .i64 (IntKind.i64.wrap ((p1.length : Int) + 1)), .int .i64 (IntKind.i64.wrap ((IntKind.i64.wrap ((p1.length : Int) + 1)) - 1)), .int .i64 x8598, .bool (decide (x8598 ≥ 0)), j30, j31, .int .i64 x8598, getL l' 33, getL l' 34, getL l' 35, getL l' 36, getL l' 37, getL l' 38, getL l' 39, getL l' 40, getL l' 41, getL l' 42, getL l' 43, getL l' 44, getL l' 45, getL l' 46, getL l' 47, getL l' 48, getL l' 49, getL l' 50, getL l' 51, getL l' 52, getL l' 53, j54, j55, j56, j57, j58, undef] ∧ Hp sb s F0 s' [Ck.ol (Ow.sl (Ow.flat Kd.bool_flat) 4) 209 A5897 c5897 x5897, Ck.ol (Ow.flat Kd.bool_flat) 4 A8115 c8115 x8809, Ck.ov b8112 [.int .i64 u8110.1, .slice A8111 u8110.2.length c8111] 139] ∧ x8809.length = x8115.length) ?_ ?_
         ·intro K8782 hK8782
          refine HT_block ?_
          refine HT_loopK (fun kf l' s' => ∃ (x8817 : List (Bool)) (x8818 : Int), (spec_l5Table.l3 p0 p1 x5897 x5898 u8110 x8598 kf x8817 x8818).bind G8782 = some r ∧ l' = [.slice A0p p0.length c0p, .slice A1p p1.length c1p, undef, undef, .slice none 0 0, .int .i64 (IntKind.i64.wrap ((p1.length : Int) + 1)), .slice A5897 x5897.length c5897, .int .i64 x5898, .pointer (some ⟨b8112, 0, none⟩), .slice A8115 x8115.length c8115, .int .i64 x8598, .int .i64 x8818, .slice A1p p1.length c1p, .int .i64 (p1.length : Int), .int .i64 (IntKind.i64.wrap ((p1.length : Int) + 1)), .slice A0p p0.length c0p, .int .i64 (p0.length : Int), .int .i64 x5898, .bool (decide (x5898 < (p0.length : Int))), .int .i64 x5898, .pointer (some ⟨b8110, o8110, none⟩), .agg #[.int .i64 u8110.1, .slice A8111 u8110.2.length c8111], .int .i64 (IntKind.i64.wrap ((p1.length : Int) + 1)), .int .i64 (IntKind.i64.wrap ((p1.length : Int) + 1)), .int .i64 (IntKind.i64.wrap ((IntKind.i64.wrap ((p1.length : Int) + 1)) * (IntKind.i64.wrap ((p1.length : Int) + 1)))), .slice A8115 x8115.length c8115, .int .i64 (IntKind.i64.wrap ((p1.length : Int) + 1)), .int .i64 (IntKind.i64.wrap ((IntKind.i64.wrap ((p1.length : Int) + 1)) - 1)), .int .i64 x8598, .bool (decide (x8598 ≥ 0)), j30, j31, .int .i64 x8598, getL l' 33, getL l' 34, getL l' 35, getL l' 36, getL l' 37, getL l' 38, getL l' 39, getL l' 40, getL l' 41, getL l' 42, getL l' 43, getL l' 44, getL l' 45, getL l' 46, getL l' 47, getL l' 48, getL l' 49, getL l' 50, getL l' 51, getL l' 52, getL l' 53, j54, j55, j56, j57, j58, undef] ∧ Hp sb s F0 s' [Ck.ol (Ow.sl (Ow.flat Kd.bool_flat) 4) 209 A5897 c5897 x5897, Ck.ol (Ow.flat Kd.bool_flat) 4 A8115 c8115 x8817, Ck.ov b8112 [.int .i64 u8110.1, .slice A8111 u8110.2.length c8111] 139] ∧ x8817.length = x8115.length) (((IntKind.i64.wrap ((p1.length : Int) + 1)) - (x8598)).toNat + 2) ⟨x8597, x8598, H, rfl, hH, hl8597⟩ ?_
          rintro kf l' s8828 ⟨x8817, x8818, H, hl, hH, hl8817⟩ K8828 hK8828
          generalize getL l' 33 = j33, getL l' 34 = j34, getL l' 35 = j35, getL l' 36 = j36, getL l' 37 = j37, getL l' 38 = j38, getL l' 39 = j39, getL l' 40 = j40, getL l' 41 = j41, getL l' 42 = j42, getL l' 43 = j43, getL l' 44 = j44, getL l' 45 = j45, getL l' 46 = j46, getL l' 47 = j47, getL l' 48 = j48, getL l' 49 = j49, getL l' 50 = j50, getL l' 51 = j51, getL l' 52 = j52, getL l' 53 = j53 at hl
          subst hl
          cases kf with
          | zero => simp [spec_l5Table.l3] at H
          | succ kf =>
           rw [spec_l5Table.l3] at H
           refine HT_seq_k ?_
           intro K8829 hK8829
           refine HT_seq_k ?_
           intro K8830 hK8830
           refine HT_region ?_
           refine HL_cons rfl ?_
           refine o_move ?_
           try dsimp only [putL, setL, evL, getL]
           refine HL_cons rfl ?_
           refine o_move ?_
           try dsimp only [putL, setL, evL, getL]
           refine HL_cons rfl ?_
           refine o_bin rfl rfl rfl ?_
           try dsimp only [putL, setL, evL, getL]
           refine HL_nil ?_
           refine hK8830 _ _ ?_
           rcases Bool.eq_false_or_eq_true (decide (x8818 < (IntKind.i64.wrap ((p1.length : Int) + 1)))) with hb8831 | hb8831
           ·replace H := iteT hb8831 H
            refine HT_true (congrArg Value.bool hb8831) ?_
            refine HT_skip ?_
            refine hK8829 _ _ ?_
            refine HT_seq_k ?_
            intro K8832 hK8832
            refine HT_block ?_
            refine HT_region ?_
            refine HL_cons rfl ?_
            refine o_move ?_
            try dsimp only [putL, setL, evL, getL]
            refine HL_cons rfl ?_
            refine o_move ?_
            try dsimp only [putL, setL, evL, getL]
            refine HL_cons rfl ?_
            refine o_move ?_
            try dsimp only [putL, setL, evL, getL]
            refine HL_cons rfl ?_
            refine o_bin rfl rfl rfl ?_
            try dsimp only [putL, setL, evL, getL]
            refine HL_cons rfl ?_
            refine o_move ?_
            try dsimp only [putL, setL, evL, getL]
            refine HL_cons rfl ?_
            refine o_bin rfl rfl rfl ?_
            try dsimp only [putL, setL, evL, getL]
            refine HL_cons rfl ?_
            refine o_move ?_
            try dsimp only [putL, setL, evL, getL]
            refine HL_cons rfl ?_
            refine o_move ?_
            try dsimp only [putL, setL, evL, getL]
            refine HL_cons rfl ?_
            refine o_move ?_
            try dsimp only [putL, setL, evL, getL]
            refine HL_cons rfl ?_
            refine o_move ?_
            try dsimp only [putL, setL, evL, getL]
            refine HL_cons rfl ?_
            refine o_move ?_
            try dsimp only [putL, setL, evL, getL]
            refine HL_cons rfl ?_
            refine o_loads' [.int .i64 u8110.1, .slice A8111 u8110.2.length c8111] rfl Try.underlying139 rfl tI139 rfl (hH.partv 2 rfl (0) [.int .i64 u8110.1, .slice A8111 u8110.2.length c8111] rfl) ?_
            try dsimp only [putL, setL, evL, getL]
            refine HL_cons rfl ?_
            refine o_move ?_
            try dsimp only [putL, setL, evL, getL]
            refine HL_cons rfl ?_
            refine o_move ?_
            try dsimp only [putL, setL, evL, getL]
            replace H := headE H
            obtain ⟨u8833, hu8833, H⟩ := H
            refine HL_cons rfl ?_
            refine o_call (args := #[.slice A0p p0.length c0p, .slice A5897 x5897.length c5897, .slice A8115 x8817.length c8115, .slice A1p p1.length c1p, .int .i64 x5898, .agg #[.int .i64 u8110.1, .slice A8111 u8110.2.length c8111], .int .i64 x8598, .int .i64 x8818]) Try.func216 rfl rfl (by show ([.slice A0p p0.length c0p, .slice A5897 x5897.length c5897, .slice A8115 x8115.length c8115, .slice A1p p1.length c1p, .int .i64 x5898, .agg #[.int .i64 u8110.1, .slice A8111 u8110.2.length c8111], .int .i64 x8598, .int .i64 x8818] : List Value) = [.slice A0p p0.length c0p, .slice A5897 x5897.length c5897, .slice A8115 x8817.length c8115, .slice A1p p1.length c1p, .int .i64 x5898, .agg #[.int .i64 u8110.1, .slice A8111 u8110.2.length c8111], .int .i64 x8598, .int .i64 x8818]; rw [hl8817]; first | done | rfl) (spec_l5Cell.ok s8828 s8828 no A0p c0p p0 A5897 c5897 x5897 A8115 c8115 x8817 A1p c1p p1 x5898 u8110.1 A8111 c8111 u8110.2 x8598 x8818 (HRp0.mono hH.bs.mono) (hH.rd 0 rfl) (hH.rd 1 rfl) (HRp1.mono hH.bs.mono) (D8111.mono hH.bs.mono) (Hp.own (Bs.refl s8828)) _ hu8833) ?_
            rintro _ s8833 ⟨rfl, hD⟩
            replace hH := hH.back0T hD
            clear hD
            dsimp only [addC, setC, rmC, selC, getC] at hH
            try dsimp only [putL, setL, evL, getL]
            replace H := headE H
            obtain ⟨u8834, hu8834, H⟩ := H
            obtain ⟨b8834, o8834, cs8834, hA8834, hr8834, hh8834, hel8834⟩ := hH.elo 1 rfl hu8834
            obtain rfl := hr8834
            refine HL_cons rfl ?_
            refine hel8834 s8833 (sliceLen hl8817) rfl Try.underlying209 tI4 ?_
            try dsimp only [putL, setL, evL, getL]
            replace H := headE H
            obtain ⟨x8835, hx8835, H⟩ := H
            refine HL_cons rfl ?_
            refine o_setF (vs := [.bool u8833]) (u := u8833) hH 1 rfl rfl rfl rfl rfl tI4 hA8834 hx8835 (Ent.own (Ent.flat rfl)) ?_
            intro s8835 hH'
            have hl8835 := (st?_len hx8835).trans hl8817
            replace hH : Hp sb s F0 s8835 [Ck.ol (Ow.sl (Ow.flat Kd.bool_flat) 4) 209 A5897 c5897 x5897, Ck.ol (Ow.flat Kd.bool_flat) 4 A8115 c8115 x8835, Ck.ov b8112 [.int .i64 u8110.1, .slice A8111 u8110.2.length c8111] 139] := hH'
            clear hH'
            try dsimp only [putL, setL, evL, getL]
            refine HL_nil ?_
            refine hK8832 _ _ ?_
            refine HT_region ?_
            refine HL_cons rfl ?_
            refine o_move ?_
            try dsimp only [putL, setL, evL, getL]
            refine HL_cons rfl ?_
            refine o_bin rfl rfl rfl ?_
            try dsimp only [putL, setL, evL, getL]
            refine HL_cons rfl ?_
            refine o_assign ?_
            try dsimp only [putL, setL, evL, getL]
            refine HL_nil ?_
            exact hK8828 _ _ ⟨kf, Nat.lt_succ_self kf, x8835, IntKind.i64.wrap (x8818 + 1), H, rfl, hH, hl8835⟩
           ·replace H := iteF hb8831 H
            refine HT_false (congrArg Value.bool hb8831) ?_
            refine HT_exit ?_
            exact hK8782 _ _ ⟨x8817, H, rfl, hH, hl8817⟩
         ·rintro l' s8836 ⟨x8809, H, hl, hH, hl8809⟩
          generalize getL l' 11 = j11, getL l' 33 = j33, getL l' 34 = j34, getL l' 35 = j35, getL l' 36 = j36, getL l' 37 = j37, getL l' 38 = j38, getL l' 39 = j39, getL l' 40 = j40, getL l' 41 = j41, getL l' 42 = j42, getL l' 43 = j43, getL l' 44 = j44, getL l' 45 = j45, getL l' 46 = j46, getL l' 47 = j47, getL l' 48 = j48, getL l' 49 = j49, getL l' 50 = j50, getL l' 51 = j51, getL l' 52 = j52, getL l' 53 = j53 at hl
          subst hl
          replace H := hG8782 _ H
          try dsimp only at H
          exact hK8723 _ _ ⟨x8809, H, rfl, hH, hl8809⟩
        ·rintro l' s8837 ⟨x8780, H, hl, hH, hl8780⟩
         generalize getL l' 11 = j11, getL l' 32 = j32, getL l' 33 = j33, getL l' 34 = j34, getL l' 35 = j35, getL l' 36 = j36, getL l' 37 = j37, getL l' 38 = j38, getL l' 39 = j39, getL l' 40 = j40, getL l' 41 = j41, getL l' 42 = j42, getL l' 43 = j43, getL l' 44 = j44, getL l' 45 = j45, getL l' 46 = j46, getL l' 47 = j47, getL l' 48 = j48, getL l' 49 = j49, getL l' 50 = j50, getL l' 51 = j51, getL l' 52 = j52, getL l' 53 = j53 at hl
         subst hl
         replace H := hG8723 _ H
         try dsimp only at H
         refine HT_region ?_
         refine HL_cons rfl ?_
         refine o_move ?_
         try dsimp only [putL, setL, evL, getL]
         refine HL_cons rfl ?_
         refine o_bin rfl rfl rfl ?_
         try dsimp only [putL, setL, evL, getL]
         refine HL_cons rfl ?_
         refine o_assign ?_
         try dsimp only [putL, setL, evL, getL]
         refine HL_nil ?_
         exact hK8719 _ _ ⟨kf, Nat.lt_succ_self kf, x8780, IntKind.i64.wrap (x8598 - 1), H, rfl, hH, hl8780⟩
       ·replace H := iteF hb8722 H
        refine HT_false (congrArg Value.bool hb8722) ?_
        refine HT_exit ?_
        exact hK8118 _ _ ⟨x8597, H, rfl, hH.sel [0, 1] (by decide), hl8597⟩
     ·rintro l' s8838 ⟨x8478, H, hl, hH, hl8478⟩
      generalize getL l' 10 = j10, getL l' 11 = j11, getL l' 28 = j28, getL l' 29 = j29, getL l' 30 = j30, getL l' 31 = j31, getL l' 32 = j32, getL l' 33 = j33, getL l' 34 = j34, getL l' 35 = j35, getL l' 36 = j36, getL l' 37 = j37, getL l' 38 = j38, getL l' 39 = j39, getL l' 40 = j40, getL l' 41 = j41, getL l' 42 = j42, getL l' 43 = j43, getL l' 44 = j44, getL l' 45 = j45, getL l' 46 = j46, getL l' 47 = j47, getL l' 48 = j48, getL l' 49 = j49, getL l' 50 = j50, getL l' 51 = j51, getL l' 52 = j52, getL l' 53 = j53 at hl
      subst hl
      replace H := hG8118 _ H
      try dsimp only at H
      refine hK8116 _ _ ?_
      refine HT_region ?_
      refine HL_cons rfl ?_
      refine o_move ?_
      try dsimp only [putL, setL, evL, getL]
      refine HL_cons rfl ?_
      refine o_move ?_
      try dsimp only [putL, setL, evL, getL]
      replace hH := hH.conv [1] (by decide) (d := Ck.el (Ow.sl (Ow.flat Kd.bool_flat) 4) [.slice A8115 x8115.length c8115] x8478) (Ent.slL hl8478)
      dsimp only [addC, setC, rmC, selC, getC] at hH
      refine HL_cons rfl ?_
      refine o_litD (K := (Kd.sl Kd.bool)) (O := (Ow.sl (Ow.flat Kd.bool_flat) 4)) (ca := #[.slice A8115 x8115.length c8115]) [[.slice A8115 x8115.length c8115]] [x8478] hH [2] (by decide) rfl Try.underlying178 tI209 rfl (by decide) rfl rfl rfl rfl (by kernel_rfl) rfl ?_
      intro A8839 s8839 hH' hG
      replace hH : Hp sb s F0 s8839 [Ck.ol (Ow.sl (Ow.flat Kd.bool_flat) 4) 209 A5897 c5897 x5897, Ck.emp, Ck.emp, Ck.ol (Ow.sl (Ow.flat Kd.bool_flat) 4) 209 A8839 1 [x8478]] := hH'
      clear hH' hG
      try dsimp only [putL, setL, evL, getL]
      replace H := headE H
      obtain ⟨x8840, hx8840, H⟩ := H
      refine HL_cons rfl ?_
      refine o_appD (K := (Kd.sl Kd.bool)) (n := 5864062014805) (A := A5897) (c := c5897) (xs := x5897) (ys := [x8478]) (B := A8839) (c2 := 1) hH 0 3 (by decide) rfl rfl rfl rfl rfl Try.underlying178 tI209 rfl (by decide) (by decide) (by decide) hx8840 ?_
      intro A8840 c8840 s8840 hH'
      replace hH : Hp sb s F0 s8840 [Ck.ol (Ow.sl (Ow.flat Kd.bool_flat) 4) 209 A8840 c8840 x8840, Ck.emp, Ck.emp, Ck.emp] := hH'
      clear hH'
      try dsimp only [putL, setL, evL, getL]
      refine HL_cons rfl ?_
      refine o_assign ?_
      try dsimp only [putL, setL, evL, getL]
      refine HL_nil ?_
      exact hK7375 _ _ ⟨x8840, A8840, c8840, H, rfl, hH.sel [0] (by decide)⟩
    ·rintro l' s8841 ⟨x8108, A8108, c8108, H, hl, hH⟩
     generalize getL l' 7 = j7, getL l' 8 = j8, getL l' 9 = j9, getL l' 10 = j10, getL l' 11 = j11, getL l' 19 = j19, getL l' 20 = j20, getL l' 21 = j21, getL l' 22 = j22, getL l' 23 = j23, getL l' 24 = j24, getL l' 25 = j25, getL l' 26 = j26, getL l' 27 = j27, getL l' 28 = j28, getL l' 29 = j29, getL l' 30 = j30, getL l' 31 = j31, getL l' 32 = j32, getL l' 33 = j33, getL l' 34 = j34, getL l' 35 = j35, getL l' 36 = j36, getL l' 37 = j37, getL l' 38 = j38, getL l' 39 = j39, getL l' 40 = j40, getL l' 41 = j41, getL l' 42 = j42, getL l' 43 = j43, getL l' 44 = j44, getL l' 45 = j45, getL l' 46 = j46, getL l' 47 = j47, getL l' 48 = j48, getL l' 49 = j49, getL l' 50 = j50, getL l' 51 = j51, getL l' 52 = j52, getL l' 53 = j53, getL l' 54 = j54, getL l' 55 = j55, getL l' 56 = j56, getL l' 57 = j57 at hl
     subst hl
     replace H := hG7375 _ H
     try dsimp only at H
     refine HT_region ?_
     refine HL_cons rfl ?_
     refine o_bin rfl rfl rfl ?_
     try dsimp only [putL, setL, evL, getL]
     refine HL_cons rfl ?_
     refine o_move ?_
     try dsimp only [putL, setL, evL, getL]
     refine HL_nil ?_
     exact hK7371 _ _ ⟨kf, Nat.lt_succ_self kf, x8108, A8108, c8108, IntKind.i64.wrap (x5898 + 1), H, rfl, hH⟩
   ·replace H := iteF hb7374 H
    refine HT_false (congrArg Value.bool hb7374) ?_
    refine HT_exit ?_
    exact hK6 _ _ ⟨x5897, A5897, c5897, H, rfl, hH⟩
 ·rintro l' s8842 ⟨x4424, A4424, c4424, H, hl, hH⟩
  generalize getL l' 7 = j7, getL l' 8 = j8, getL l' 9 = j9, getL l' 10 = j10, getL l' 11 = j11, getL l' 17 = j17, getL l' 18 = j18, getL l' 19 = j19, getL l' 20 = j20, getL l' 21 = j21, getL l' 22 = j22, getL l' 23 = j23, getL l' 24 = j24, getL l' 25 = j25, getL l' 26 = j26, getL l' 27 = j27, getL l' 28 = j28, getL l' 29 = j29, getL l' 30 = j30, getL l' 31 = j31, getL l' 32 = j32, getL l' 33 = j33, getL l' 34 = j34, getL l' 35 = j35, getL l' 36 = j36, getL l' 37 = j37, getL l' 38 = j38, getL l' 39 = j39, getL l' 40 = j40, getL l' 41 = j41, getL l' 42 = j42, getL l' 43 = j43, getL l' 44 = j44, getL l' 45 = j45, getL l' 46 = j46, getL l' 47 = j47, getL l' 48 = j48, getL l' 49 = j49, getL l' 50 = j50, getL l' 51 = j51, getL l' 52 = j52, getL l' 53 = j53, getL l' 54 = j54, getL l' 55 = j55, getL l' 56 = j56, getL l' 57 = j57, getL l' 58 = j58 at hl
  subst hl
  replace H := hG6 _ H
  try dsimp only at H
  refine hK4 _ _ ?_
  refine HT_seq_k ?_
  intro K8843 hK8843
  refine HT_region ?_
  refine HL_cons rfl ?_
  refine o_move ?_
  try dsimp only [putL, setL, evL, getL]
  refine HL_cons rfl ?_
  refine o_assign ?_
  try dsimp only [putL, setL, evL, getL]
  refine HL_nil ?_
  refine hK8843 _ _ ?_
  refine HT_ret ?_
  exact hQr _ _ [.slice A4424 x4424.length c4424] ⟨rfl, trivial⟩ (retH (fun r => spec_l5Table.post sb s F0 r _ _) (show some _ = some r from H) ⟨A4424, c4424, rfl, hH⟩)
def spec_l7Find.l2 (p1 : List (Int)) (u5 : List (Bool)) (x490 : Int) : Nat → Int → Option (Lo Unit (Lo Unit (Lo Unit (Int × Int × Bool))))
 | 0, _ => none
 | kf + 1, x710 => if (decide (x710 ≥ x490)) = true then ((rd? u5 (IntKind.i64.wrap ((IntKind.i64.wrap (x490 * (IntKind.i64.wrap ((p1.length : Int) + 1)))) + x710))).bind fun u726 => if u726 = true then ((((some (x490, x710, true)).bind fun z => some (Lo.ret z)).bind fun z => some (Lo.ret z)).bind fun z => some (Lo.ret z)) else (spec_l7Find.l2 p1 u5 x490 kf (IntKind.i64.wrap (x710 - 1)))) else (some (Lo.go ()))
def spec_l7Find.l1 (p1 : List (Int)) (u5 : List (Bool)) : Nat → Int → Option (Lo Unit (Int × Int × Bool))
 | 0, _ => none
 | kf + 1, x490 => if (decide (x490 < (IntKind.i64.wrap ((p1.length : Int) + 1)))) = true then (((spec_l7Find.l2 p1 u5 x490 (((IntKind.i64.wrap ((IntKind.i64.wrap ((p1.length : Int) + 1)) - 1)) - (x490)).toNat + 2) (IntKind.i64.wrap ((IntKind.i64.wrap ((p1.length : Int) + 1)) - 1))).bind fun (o : Lo Unit (Lo Unit (Lo Unit (Int × Int × Bool)))) => match o with | .go () => (some (Lo.go ())) | .ret z => some z).bind fun (o : Lo Unit (Lo Unit (Int × Int × Bool))) => match o with | .go () => (spec_l7Find.l1 p1 u5 kf (IntKind.i64.wrap (x490 + 1))) | .ret z => some z) else (some (Lo.go ()))
def spec_l7Find.f (p0 : List ((Int) × (List (Int)))) (p1 : List (Int)) : Option (Int × Int × Bool) := (spec_l5Table.f p0 p1).bind fun u3 => (rd? u3 (IntKind.i64.wrap ((p0.length : Int) - 1))).bind fun u5 => (spec_l7Find.l1 p1 u5 (((IntKind.i64.wrap ((p1.length : Int) + 1)) - (0)).toNat + 2) 0).bind fun (o : Lo Unit (Int × Int × Bool)) => match o with | .go () => (some (0, 0, false)) | .ret z => some z
def spec_l7Find.post (sb s : St) (F0 : Fp) (r : Int × Int × Bool) : Value → St → Prop := fun v s' => v = .tuple #[.int .i64 r.1, .int .i64 r.2.1, .bool r.2.2] ∧ Hp sb s F0 s' []
set_option maxRecDepth 100000 in
set_option maxHeartbeats 4000000 in
theorem spec_l7Find.ok (sb s : St) (F0 : Fp) (A0p : Option Addr) (c0p : Nat) (p0 : List ((Int) × (List (Int)))) (A1p : Option Addr) (c1p : Nat) (p1 : List (Int)) (HRp0 : Rd KS139 sb A0p c0p p0) (HRp1 : Rd KI sb A1p c1p p1) (hH : Hp sb s F0 s []) (r : Int × Int × Bool) (H : spec_l7Find.f p0 p1 = some r) : GCall Try.prog 232 #[.slice A0p p0.length c0p, .slice A1p p1.length c1p] s (spec_l7Find.post sb s F0 r) := by
 refine GCall_ofk [.tmp 4, .tmp 5, .tmp 6] [.slice A0p p0.length c0p, .slice A1p p1.length c1p, undef, undef, undef, undef, undef, undef, undef, undef, undef, undef, undef, undef, undef, undef, undef, undef, undef, undef, undef, undef, undef, undef, undef, undef, undef, undef, undef, undef, undef, undef, undef, undef, undef, undef, undef, undef, undef, undef, undef, undef, undef, undef] Try.func232 rfl rfl rfl ?_
 intro w Q hQr hQn hQp
 replace H := topE H
 unfold spec_l7Find.f at H
 refine HT_seq_k ?_
 intro K1 hK1
 refine HT_region ?_
 refine HL_cons rfl ?_
 refine o_assign ?_
 try dsimp only [putL, setL, evL, getL]
 refine HL_cons rfl ?_
 refine o_assign ?_
 try dsimp only [putL, setL, evL, getL]
 refine HL_cons rfl ?_
 refine o_assign ?_
 try dsimp only [putL, setL, evL, getL]
 refine HL_nil ?_
 refine hK1 _ _ ?_
 refine HT_seq_k ?_
 intro K2 hK2
 refine HT_region ?_
 refine HL_cons rfl ?_
 refine o_move ?_
 try dsimp only [putL, setL, evL, getL]
 refine HL_cons rfl ?_
 refine o_move ?_
 try dsimp only [putL, setL, evL, getL]
 replace H := headE H
 obtain ⟨u3, hu3, H⟩ := H
 refine HL_cons rfl ?_
 refine o_call (args := #[.slice A0p p0.length c0p, .slice A1p p1.length c1p]) Try.func176 rfl rfl rfl (spec_l5Table.ok sb s no A0p c0p p0 A1p c1p p1 HRp0 HRp1 (Hp.own hH.bs) _ hu3) ?_
 rintro _ s3 ⟨A4, c4, rfl, hD⟩
 replace hH := hH.back0 hD (Up.refl _ _ _)
 clear hD
 dsimp only [addC, setC, rmC, selC, getC] at hH
 try dsimp only [putL, setL, evL, getL]
 refine HL_cons rfl ?_
 refine o_move ?_
 try dsimp only [putL, setL, evL, getL]
 refine HL_cons rfl ?_
 refine o_len rfl Try.underlying57 ?_
 try dsimp only [putL, setL, evL, getL]
 refine HL_cons rfl ?_
 refine o_bin rfl rfl rfl ?_
 try dsimp only [putL, setL, evL, getL]
 replace H := headE H
 obtain ⟨u5, hu5, H⟩ := H
 obtain ⟨b5, o5, vs5, hA5, -, hH⟩ := hH.open 0 rfl rfl hu5
 dsimp only [addC, setC, rmC, selC, getC] at hH
 obtain ⟨A6, c6, rfl, hH⟩ := hH.el_sl 1 rfl rfl
 dsimp only [addC, setC, rmC, selC, getC] at hH
 replace hH : Hp sb s F0 s3 [Ck.oh (Ow.sl (Ow.flat Kd.bool_flat) 4) 209 A4 c4 u3 (Int.toNat (IntKind.i64.wrap ((p0.length : Int) - 1))) [.slice A6 u5.length c6], Ck.ol (Ow.flat Kd.bool_flat) 4 A6 c6 u5] := hH
 refine HL_cons rfl ?_
 refine iaddr_of (K := (Kd.sl Kd.bool)) hA5 hu5 s3 rfl rfl Try.underlying178 tI209 ?_
 try dsimp only [putL, setL, evL, getL]
 refine HL_cons rfl ?_
 refine o_load' rfl Try.underlying209 rfl (hH.hasoh 0 rfl hA5 0 _ rfl) ?_
 try dsimp only [putL, setL, evL, getL]
 refine HL_cons rfl ?_
 refine o_assign ?_
 try dsimp only [putL, setL, evL, getL]
 refine HL_nil ?_
 refine hK2 _ _ ?_
 refine HT_seq_k ?_
 intro K7 hK7
 refine HT_region ?_
 refine HL_cons rfl ?_
 refine o_move ?_
 try dsimp only [putL, setL, evL, getL]
 refine HL_cons rfl ?_
 refine o_len rfl Try.underlying24 ?_
 try dsimp only [putL, setL, evL, getL]
 refine HL_cons rfl ?_
 refine o_bin rfl rfl rfl ?_
 try dsimp only [putL, setL, evL, getL]
 refine HL_cons rfl ?_
 refine o_assign ?_
 try dsimp only [putL, setL, evL, getL]
 refine HL_nil ?_
 refine hK7 _ _ ?_
 refine HT_seq_k ?_
 intro K8 hK8
 refine HT_seq_k ?_
 intro K9 hK9
 refine HT_region ?_
 refine HL_cons rfl ?_
 refine o_assign ?_
 try dsimp only [putL, setL, evL, getL]
 refine HL_nil ?_
 refine hK9 _ _ ?_
 refine joinH H fun G10 hG10 H => ?_
 refine HT_toK (fun l' s' => G10 (.go ()) = some r ∧ l' = [.slice A0p p0.length c0p, .slice A1p p1.length c1p, undef, undef, getL l' 4, getL l' 5, getL l' 6, .slice A6 u5.length c6, .int .i64 (IntKind.i64.wrap ((p1.length : Int) + 1)), getL l' 9, getL l' 10, .slice A0p p0.length c0p, .slice A1p p1.length c1p, .slice A4 u3.length c4, .slice A0p p0.length c0p, .int .i64 (p0.length : Int), .int .i64 (IntKind.i64.wrap ((p0.length : Int) - 1)), .pointer (some ⟨b5, o5 + Int.toNat (IntKind.i64.wrap ((p0.length : Int) - 1)) * Kd.sz (Kd.sl Kd.bool), none⟩), .slice A6 u5.length c6, .slice A1p p1.length c1p, .int .i64 (p1.length : Int), .int .i64 (IntKind.i64.wrap ((p1.length : Int) + 1)), getL l' 22, getL l' 23, getL l' 24, getL l' 25, getL l' 26, getL l' 27, getL l' 28, getL l' 29, getL l' 30, getL l' 31, getL l' 32, getL l' 33, getL l' 34, getL l' 35, getL l' 36, getL l' 37, getL l' 38, getL l' 39, getL l' 40, getL l' 41, getL l' 42, getL l' 43] ∧ Hp sb s F0 s' []) ?_ ?_
 ·intro K10 hK10
  refine HT_block ?_
  refine HT_loopK (fun kf l' s' => ∃ (x490 : Int), (spec_l7Find.l1 p1 u5 kf x490).bind G10 = some r ∧ l' = [.slice A0p p0.length c0p, .slice A1p p1.length c1p, undef, undef, getL l' 4, getL l' 5, getL l' 6, .slice A6 u5.length c6, .int .i64 (IntKind.i64.wrap ((p1.length : Int) + 1)), .int .i64 x490, getL l' 10, .slice A0p p0.length c0p, .slice A1p p1.length c1p, .slice A4 u3.length c4, .slice A0p p0.length c0p, .int .i64 (p0.length : Int), .int .i64 (IntKind.i64.wrap ((p0.length : Int) - 1)), .pointer (some ⟨b5, o5 + Int.toNat (IntKind.i64.wrap ((p0.length : Int) - 1)) * Kd.sz (Kd.sl Kd.bool), none⟩), .slice A6 u5.length c6, .slice A1p p1.length c1p, .int .i64 (p1.length : Int), .int .i64 (IntKind.i64.wrap ((p1.length : Int) + 1)), getL l' 22, getL l' 23, getL l' 24, getL l' 25, getL l' 26, getL l' 27, getL l' 28, getL l' 29, getL l' 30, getL l' 31, getL l' 32, getL l' 33, getL l' 34, getL l' 35, getL l' 36, getL l' 37, getL l' 38, getL l' 39, getL l' 40, getL l' 41, getL l' 42, getL l' 43] ∧ Hp sb s F0 s' [Ck.ol (Ow.flat Kd.bool_flat) 4 A6 c6 u5, Ck.oh (Ow.sl (Ow.flat Kd.bool_flat) 4) 209 A4 c4 u3 (Int.toNat (IntKind.i64.wrap ((p0.length : Int) - 1))) [.slice A6 u5.length c6]]) (((IntKind.i64.wrap ((p1.length : Int) + 1)) - (0)).toNat + 2) ⟨0, H, rfl, hH.sel [1, 0] (by decide)⟩ ?_
  rintro kf l' s611 ⟨x490, H, hl, hH⟩ K611 hK611
  generalize getL l' 4 = j4, getL l' 5 = j5, getL l' 6 = j6, getL l' 10 = j10, getL l' 22 = j22, getL l' 23 = j23, getL l' 24 = j24, getL l' 25 = j25, getL l' 26 = j26, getL l' 27 = j27, getL l' 28 = j28, getL l' 29 = j29, getL l' 30 = j30, getL l' 31 = j31, getL l' 32 = j32, getL l' 33 = j33, getL l' 34 = j34, getL l' 35 = j35, getL l' 36 = j36, getL l' 37 = j37, getL l' 38 = j38, getL l' 39 = j39, getL l' 40 = j40, getL l' 41 = j41, getL l' 42 = j42, getL l' 43 = j43 at hl
  subst hl
  cases kf with
  | zero => simp [spec_l7Find.l1] at H
  | succ kf =>
   rw [spec_l7Find.l1] at H
   refine HT_seq_k ?_
   intro K612 hK612
   refine HT_seq_k ?_
   intro K613 hK613
   refine HT_region ?_
   refine HL_cons rfl ?_
   refine o_move ?_
   try dsimp only [putL, setL, evL, getL]
   refine HL_cons rfl ?_
   refine o_move ?_
   try dsimp only [putL, setL, evL, getL]
   refine HL_cons rfl ?_
   refine o_bin rfl rfl rfl ?_
   try dsimp only [putL, setL, evL, getL]
   refine HL_nil ?_
   refine hK613 _ _ ?_
   rcases Bool.eq_false_or_eq_true (decide (x490 < (IntKind.i64.wrap ((p1.length : Int) + 1)))) with hb614 | hb614
   ·replace H := iteT hb614 H
    refine HT_true (congrArg Value.bool hb614) ?_
    refine HT_skip ?_
    refine hK612 _ _ ?_
    refine joinH H fun G615 hG615 H => ?_
    refine HT_joinK (fun l' s' => G615 (.go ()) = some r ∧ l' = [.slice A0p p0.length c0p, .slice A1p p1.length c1p, undef, undef, getL l' 4, getL l' 5, getL l' 6, .slice A6 u5.length c6, .int .i64 (IntKind.i64.wrap ((p1.length : Int) + 1)), .int .i64 x490, getL l' 10, .slice A0p p0.length c0p, .slice A1p p1.length c1p, .slice A4 u3.length c4, .slice A0p p0.length c0p, .int .i64 (p0.length : Int), .int .i64 (IntKind.i64.wrap ((p0.length : Int) - 1)), .pointer (some ⟨b5, o5 + Int.toNat (IntKind.i64.wrap ((p0.length : Int) - 1)) * Kd.sz (Kd.sl Kd.bool), none⟩), .slice A6 u5.length c6, .slice A1p p1.length c1p, .int .i64 (p1.length : Int), .int .i64 (IntKind.i64.wrap ((p1.length : Int) + 1)), .int .i64 x490, .int .i64 (IntKind.i64.wrap ((p1.length : Int) + 1)), .bool (decide (x490 < (IntKind.i64.wrap ((p1.length : Int) + 1)))), j25, j26, getL l' 27, getL l' 28, getL l' 29, getL l' 30, getL l' 31, getL l' 32, getL l' 33, getL l' 34, getL l' 35, getL l' 36, getL l' 37, getL l' 38, getL l' 39, getL l' 40, getL l' 41, getL l' 42, getL l' 43] ∧ Hp sb s F0 s' [Ck.ol (Ow.flat Kd.bool_flat) 4 A6 c6 u5, Ck.oh (Ow.sl (Ow.flat Kd.bool_flat) 4) 209 A4 c4 u3 (Int.toNat (IntKind.i64.wrap ((p0.length : Int) - 1))) [.slice A6 u5.length c6]]) ?_ ?_
    ·intro K615 hK615
     refine HT_block ?_
     refine HT_seq_k ?_
     intro K673 hK673
     refine HT_region ?_
     refine HL_cons rfl ?_
     refine o_move ?_
     try dsimp only [putL, setL, evL, getL]
     refine HL_cons rfl ?_
     refine o_bin rfl rfl rfl ?_
     try dsimp only [putL, setL, evL, getL]
     refine HL_cons rfl ?_
     refine o_assign ?_
     try dsimp only [putL, setL, evL, getL]
     refine HL_nil ?_
     refine hK673 _ _ ?_
     refine joinH H fun G674 hG674 H => ?_
     refine HT_toK (fun l' s' => G674 (.go ()) = some r ∧ l' = [.slice A0p p0.length c0p, .slice A1p p1.length c1p, undef, undef, getL l' 4, getL l' 5, getL l' 6, .slice A6 u5.length c6, .int .i64 (IntKind.i64.wrap ((p1.length : Int) + 1)), .int .i64 x490, getL l' 10, .slice A0p p0.length c0p, .slice A1p p1.length c1p, .slice A4 u3.length c4, .slice A0p p0.length c0p, .int .i64 (p0.length : Int), .int .i64 (IntKind.i64.wrap ((p0.length : Int) - 1)), .pointer (some ⟨b5, o5 + Int.toNat (IntKind.i64.wrap ((p0.length : Int) - 1)) * Kd.sz (Kd.sl Kd.bool), none⟩), .slice A6 u5.length c6, .slice A1p p1.length c1p, .int .i64 (p1.length : Int), .int .i64 (IntKind.i64.wrap ((p1.length : Int) + 1)), .int .i64 x490, .int .i64 (IntKind.i64.wrap ((p1.length : Int) + 1)), .bool (decide (x490 < (IntKind.i64.wrap ((p1.length : Int) + 1)))), j25, j26, .int .i64 (IntKind.i64.wrap ((p1.length : Int) + 1)), .int .i64 (IntKind.i64.wrap ((IntKind.i64.wrap ((p1.length : Int) + 1)) - 1)), getL l' 29, getL l' 30, getL l' 31, getL l' 32, getL l' 33, getL l' 34, getL l' 35, getL l' 36, getL l' 37, getL l' 38, getL l' 39, getL l' 40, getL l' 41, getL l' 42, getL l' 43] ∧ Hp sb s F0 s' [Ck.ol (Ow.flat Kd.bool_flat) 4 A6 c6 u5, Ck.oh (Ow.sl (Ow.flat Kd.bool_flat) 4) 209 A4 c4 u3 (Int.toNat (IntKind.i64.wrap ((p0.length : Int) - 1))) [.slice A6 u5.length c6]]) ?_ ?_
     ·intro K674 hK674
      refine HT_block ?_
      refine HT_loopK (fun kf l' s' => ∃ (x710 : Int), (spec_l7Find.l2 p1 u5 x490 kf x710).bind G674 = some r ∧ l' = [.slice A0p p0.length c0p, .slice A1p p1.length c1p, undef, undef, getL l' 4, getL l' 5, getL l' 6, .slice A6 u5.length c6, .int .i64 (IntKind.i64.wrap ((p1.length : Int) + 1)), .int .i64 x490, .int .i64 x710, .slice A0p p0.length c0p, .slice A1p p1.length c1p, .slice A4 u3.length c4, .slice A0p p0.length c0p, .int .i64 (p0.length : Int), .int .i64 (IntKind.i64.wrap ((p0.length : Int) - 1)), .pointer (some ⟨b5, o5 + Int.toNat (IntKind.i64.wrap ((p0.length : Int) - 1)) * Kd.sz (Kd.sl Kd.bool), none⟩), .slice A6 u5.length c6, .slice A1p p1.length c1p, .int .i64 (p1.length : Int), .int .i64 (IntKind.i64.wrap ((p1.length : Int) + 1)), .int .i64 x490, .int .i64 (IntKind.i64.wrap ((p1.length : Int) + 1)), .bool (decide (x490 < (IntKind.i64.wrap ((p1.length : Int) + 1)))), j25, j26, .int .i64 (IntKind.i64.wrap ((p1.length : Int) + 1)), .int .i64 (IntKind.i64.wrap ((IntKind.i64.wrap ((p1.length : Int) + 1)) - 1)), getL l' 29, getL l' 30, getL l' 31, getL l' 32, getL l' 33, getL l' 34, getL l' 35, getL l' 36, getL l' 37, getL l' 38, getL l' 39, getL l' 40, getL l' 41, getL l' 42, getL l' 43] ∧ Hp sb s F0 s' [Ck.ol (Ow.flat Kd.bool_flat) 4 A6 c6 u5, Ck.oh (Ow.sl (Ow.flat Kd.bool_flat) 4) 209 A4 c4 u3 (Int.toNat (IntKind.i64.wrap ((p0.length : Int) - 1))) [.slice A6 u5.length c6]]) (((IntKind.i64.wrap ((IntKind.i64.wrap ((p1.length : Int) + 1)) - 1)) - (x490)).toNat + 2) ⟨IntKind.i64.wrap ((IntKind.i64.wrap ((p1.length : Int) + 1)) - 1), H, rfl, hH⟩ ?_
      rintro kf l' s720 ⟨x710, H, hl, hH⟩ K720 hK720
      generalize getL l' 4 = j4, getL l' 5 = j5, getL l' 6 = j6, getL l' 29 = j29, getL l' 30 = j30, getL l' 31 = j31, getL l' 32 = j32, getL l' 33 = j33, getL l' 34 = j34, getL l' 35 = j35, getL l' 36 = j36, getL l' 37 = j37, getL l' 38 = j38, getL l' 39 = j39, getL l' 40 = j40, getL l' 41 = j41, getL l' 42 = j42, getL l' 43 = j43 at hl
      subst hl
      cases kf with
      | zero => simp [spec_l7Find.l2] at H
      | succ kf =>
       rw [spec_l7Find.l2] at H
       refine HT_seq_k ?_
       intro K721 hK721
       refine HT_seq_k ?_
       intro K722 hK722
       refine HT_region ?_
       refine HL_cons rfl ?_
       refine o_move ?_
       try dsimp only [putL, setL, evL, getL]
       refine HL_cons rfl ?_
       refine o_move ?_
       try dsimp only [putL, setL, evL, getL]
       refine HL_cons rfl ?_
       refine o_bin rfl rfl rfl ?_
       try dsimp only [putL, setL, evL, getL]
       refine HL_nil ?_
       refine hK722 _ _ ?_
       rcases Bool.eq_false_or_eq_true (decide (x710 ≥ x490)) with hb723 | hb723
       ·replace H := iteT hb723 H
        refine HT_true (congrArg Value.bool hb723) ?_
        refine HT_skip ?_
        refine hK721 _ _ ?_
        refine HT_seq_k ?_
        intro K724 hK724
        refine HT_block ?_
        refine HT_seq_k ?_
        intro K725 hK725
        refine HT_region ?_
        refine HL_cons rfl ?_
        refine o_move ?_
        try dsimp only [putL, setL, evL, getL]
        refine HL_cons rfl ?_
        refine o_move ?_
        try dsimp only [putL, setL, evL, getL]
        refine HL_cons rfl ?_
        refine o_move ?_
        try dsimp only [putL, setL, evL, getL]
        refine HL_cons rfl ?_
        refine o_bin rfl rfl rfl ?_
        try dsimp only [putL, setL, evL, getL]
        refine HL_cons rfl ?_
        refine o_move ?_
        try dsimp only [putL, setL, evL, getL]
        refine HL_cons rfl ?_
        refine o_bin rfl rfl rfl ?_
        try dsimp only [putL, setL, evL, getL]
        replace H := headE H
        obtain ⟨u726, hu726, H⟩ := H
        obtain ⟨b726, o726, cs726, hA726, hr726, hh726, hel726⟩ := hH.elo 0 rfl hu726
        obtain rfl := hr726
        refine HL_cons rfl ?_
        refine hel726 s720 rfl rfl Try.underlying209 tI4 ?_
        try dsimp only [putL, setL, evL, getL]
        refine HL_cons rfl ?_
        refine o_load' rfl Try.underlying4 rfl (hh726 0 _ rfl) ?_
        try dsimp only [putL, setL, evL, getL]
        refine HL_nil ?_
        refine hK725 _ _ ?_
        rcases Bool.eq_false_or_eq_true u726 with hb727 | hb727
        ·replace H := iteT hb727 H
         refine HT_true (congrArg Value.bool hb727) ?_
         refine HT_seq_k ?_
         intro K728 hK728
         refine HT_region ?_
         refine HL_cons rfl ?_
         refine o_move ?_
         try dsimp only [putL, setL, evL, getL]
         refine HL_cons rfl ?_
         refine o_move ?_
         try dsimp only [putL, setL, evL, getL]
         refine HL_cons rfl ?_
         refine o_assign ?_
         try dsimp only [putL, setL, evL, getL]
         refine HL_cons rfl ?_
         refine o_assign ?_
         try dsimp only [putL, setL, evL, getL]
         refine HL_cons rfl ?_
         refine o_assign ?_
         try dsimp only [putL, setL, evL, getL]
         refine HL_nil ?_
         refine hK728 _ _ ?_
         refine HT_ret ?_
         replace H := escH (fun z hz => hG674 _ hz) H
         replace H := escH (fun z hz => hG615 _ hz) H
         replace H := escH (fun z hz => hG10 _ hz) H
         replace hH := hH.conv [0] (by decide) (d := Ck.el (Ow.sl (Ow.flat Kd.bool_flat) 4) [.slice A6 u5.length c6] u5) Ent.sl
         dsimp only [addC, setC, rmC, selC, getC] at hH
         replace hH := hH.close (i := IntKind.i64.wrap ((p0.length : Int) - 1)) 1 2 (by decide) rfl rfl rfl (st?_same hu5)
         dsimp only [addC, setC, rmC, selC, getC] at hH
         replace hH : Hp sb s F0 s720 [Ck.emp, Ck.ol (Ow.sl (Ow.flat Kd.bool_flat) 4) 209 A4 c4 u3, Ck.emp] := hH
         exact hQr _ _ [.int .i64 x490, .int .i64 x710, .bool true] ⟨rfl, rfl, rfl, trivial⟩ (retH (fun r => spec_l7Find.post sb s F0 r _ _) (show some _ = some r from H) ⟨rfl, hH.sel [] (by decide)⟩)
        ·replace H := iteF hb727 H
         refine HT_false (congrArg Value.bool hb727) ?_
         refine HT_skip ?_
         refine hK724 _ _ ?_
         refine HT_region ?_
         refine HL_cons rfl ?_
         refine o_move ?_
         try dsimp only [putL, setL, evL, getL]
         refine HL_cons rfl ?_
         refine o_bin rfl rfl rfl ?_
         try dsimp only [putL, setL, evL, getL]
         refine HL_cons rfl ?_
         refine o_assign ?_
         try dsimp only [putL, setL, evL, getL]
         refine HL_nil ?_
         exact hK720 _ _ ⟨kf, Nat.lt_succ_self kf, IntKind.i64.wrap (x710 - 1), H, rfl, hH⟩
       ·replace H := iteF hb723 H
        refine HT_false (congrArg Value.bool hb723) ?_
        refine HT_exit ?_
        exact hK674 _ _ ⟨H, rfl, hH⟩
     ·rintro l' s729 ⟨H, hl, hH⟩
      generalize getL l' 4 = j4, getL l' 5 = j5, getL l' 6 = j6, getL l' 10 = j10, getL l' 29 = j29, getL l' 30 = j30, getL l' 31 = j31, getL l' 32 = j32, getL l' 33 = j33, getL l' 34 = j34, getL l' 35 = j35, getL l' 36 = j36, getL l' 37 = j37, getL l' 38 = j38, getL l' 39 = j39, getL l' 40 = j40, getL l' 41 = j41, getL l' 42 = j42, getL l' 43 = j43 at hl
      subst hl
      replace H := hG674 _ H
      try dsimp only at H
      exact hK615 _ _ ⟨H, rfl, hH⟩
    ·rintro l' s730 ⟨H, hl, hH⟩
     generalize getL l' 4 = j4, getL l' 5 = j5, getL l' 6 = j6, getL l' 10 = j10, getL l' 27 = j27, getL l' 28 = j28, getL l' 29 = j29, getL l' 30 = j30, getL l' 31 = j31, getL l' 32 = j32, getL l' 33 = j33, getL l' 34 = j34, getL l' 35 = j35, getL l' 36 = j36, getL l' 37 = j37, getL l' 38 = j38, getL l' 39 = j39, getL l' 40 = j40, getL l' 41 = j41, getL l' 42 = j42, getL l' 43 = j43 at hl
     subst hl
     replace H := hG615 _ H
     try dsimp only at H
     refine HT_region ?_
     refine HL_cons rfl ?_
     refine o_move ?_
     try dsimp only [putL, setL, evL, getL]
     refine HL_cons rfl ?_
     refine o_bin rfl rfl rfl ?_
     try dsimp only [putL, setL, evL, getL]
     refine HL_cons rfl ?_
     refine o_assign ?_
     try dsimp only [putL, setL, evL, getL]
     refine HL_nil ?_
     exact hK611 _ _ ⟨kf, Nat.lt_succ_self kf, IntKind.i64.wrap (x490 + 1), H, rfl, hH⟩
   ·replace H := iteF hb614 H
    refine HT_false (congrArg Value.bool hb614) ?_
    refine HT_exit ?_
    replace hH := hH.conv [0] (by decide) (d := Ck.el (Ow.sl (Ow.flat Kd.bool_flat) 4) [.slice A6 u5.length c6] u5) Ent.sl
    dsimp only [addC, setC, rmC, selC, getC] at hH
    replace hH := hH.close (i := IntKind.i64.wrap ((p0.length : Int) - 1)) 1 2 (by decide) rfl rfl rfl (st?_same hu5)
    dsimp only [addC, setC, rmC, selC, getC] at hH
    replace hH : Hp sb s F0 s611 [Ck.emp, Ck.ol (Ow.sl (Ow.flat Kd.bool_flat) 4) 209 A4 c4 u3, Ck.emp] := hH
    exact hK10 _ _ ⟨H, rfl, hH.sel [] (by decide)⟩
 ·rintro l' s731 ⟨H, hl, hH⟩
  generalize getL l' 4 = j4, getL l' 5 = j5, getL l' 6 = j6, getL l' 9 = j9, getL l' 10 = j10, getL l' 22 = j22, getL l' 23 = j23, getL l' 24 = j24, getL l' 25 = j25, getL l' 26 = j26, getL l' 27 = j27, getL l' 28 = j28, getL l' 29 = j29, getL l' 30 = j30, getL l' 31 = j31, getL l' 32 = j32, getL l' 33 = j33, getL l' 34 = j34, getL l' 35 = j35, getL l' 36 = j36, getL l' 37 = j37, getL l' 38 = j38, getL l' 39 = j39, getL l' 40 = j40, getL l' 41 = j41, getL l' 42 = j42, getL l' 43 = j43 at hl
  subst hl
  replace H := hG10 _ H
  try dsimp only at H
  refine hK8 _ _ ?_
  refine HT_seq_k ?_
  intro K732 hK732
  refine HT_region ?_
  refine HL_cons rfl ?_
  refine o_assign ?_
  try dsimp only [putL, setL, evL, getL]
  refine HL_cons rfl ?_
  refine o_assign ?_
  try dsimp only [putL, setL, evL, getL]
  refine HL_cons rfl ?_
  refine o_assign ?_
  try dsimp only [putL, setL, evL, getL]
  refine HL_nil ?_
  refine hK732 _ _ ?_
  refine HT_ret ?_
  exact hQr _ _ [.int .i64 0, .int .i64 0, .bool false] ⟨rfl, rfl, rfl, trivial⟩ (retH (fun r => spec_l7Find.post sb s F0 r _ _) (show some _ = some r from H) ⟨rfl, hH⟩)
def spec_FindAll.l1 (p0 : List ((Int) × (List (Int)))) (p1 : List (Int)) : Nat → (List ((Int) × (Int) × (Int))) → Int → Option (List ((Int) × (Int) × (Int)))
 | 0, _, _ => none
 | kf + 1, x99, x100 => if (decide (x100 ≤ (p1.length : Int))) = true then ((cut? p1 x100 (p1.length : Int)).bind fun x128 => (spec_l7Find.f p0 x128).bind fun u129 => if (!u129.2.2) = true then (some x99) else ((app? 5864062014805 x99 [((x99.length : Int), IntKind.i64.wrap (x100 + u129.1), IntKind.i64.wrap (x100 + u129.2.1))]).bind fun x135 => (if (u129.1 == u129.2.1) = true then (some (IntKind.i64.wrap ((IntKind.i64.wrap (x100 + u129.2.1)) + 1))) else (some (IntKind.i64.wrap (x100 + u129.2.1)))).bind fun (o : Int) => match o with | x140 => (spec_FindAll.l1 p0 p1 kf x135 x140))) else (some x99)
def spec_FindAll.f (p0 : List ((Int) × (List (Int)))) (p1 : List (Int)) : Option ((List ((Int) × (Int) × (Int))) × Bool) := (spec_l7Asked.f p0 p1).bind fun u4 => if (!u4) = true then (some ([], false)) else ((spec_FindAll.l1 p0 p1 ((((p1.length : Int)) - (0)).toNat + 2) [] 0).bind fun (o : (List ((Int) × (Int) × (Int)))) => match o with | x76 => (some (x76, true)))
def spec_FindAll.post (sb s : St) (F0 : Fp) (r : (List ((Int) × (Int) × (Int))) × Bool) : Value → St → Prop := fun v s' => ∃ (A0 : Option Addr) (c0 : Nat), v = .tuple #[.slice A0 r.1.length c0, .bool r.2] ∧ Hp sb s F0 s' [Ck.ol OS207 207 A0 c0 r.1]
set_option maxRecDepth 100000 in
set_option maxHeartbeats 4000000 in
theorem spec_FindAll.ok (sb s : St) (F0 : Fp) (A0p : Option Addr) (c0p : Nat) (p0 : List ((Int) × (List (Int)))) (A1p : Option Addr) (c1p : Nat) (p1 : List (Int)) (HRp0 : Rd KS139 sb A0p c0p p0) (HRp1 : Rd KI sb A1p c1p p1) (hH : Hp sb s F0 s []) (r : (List ((Int) × (Int) × (Int))) × Bool) (H : spec_FindAll.f p0 p1 = some r) : GCall Try.prog 214 #[.slice A0p p0.length c0p, .slice A1p p1.length c1p] s (spec_FindAll.post sb s F0 r) := by
 refine GCall_ofk [.tmp 4, .tmp 5] [.slice A0p p0.length c0p, .slice A1p p1.length c1p, undef, undef, undef, undef, undef, undef, undef, undef, undef, undef, undef, undef, undef, undef, undef, undef, undef, undef, undef, undef, undef, undef, undef, undef, undef, undef, undef, undef, undef, undef, undef, undef, undef, undef, undef, undef, undef, undef, undef, undef, undef, undef, undef, undef, undef, undef, undef, undef, undef, undef, undef] Try.func214 rfl rfl rfl ?_
 intro w Q hQr hQn hQp
 replace H := topE H
 unfold spec_FindAll.f at H
 refine HT_seq_k ?_
 intro K1 hK1
 refine HT_region ?_
 refine HL_cons rfl ?_
 refine o_assign ?_
 try dsimp only [putL, setL, evL, getL]
 refine HL_cons rfl ?_
 refine o_assign ?_
 try dsimp only [putL, setL, evL, getL]
 refine HL_nil ?_
 refine hK1 _ _ ?_
 refine HT_seq_k ?_
 intro K2 hK2
 refine HT_seq_k ?_
 intro K3 hK3
 refine HT_region ?_
 refine HL_cons rfl ?_
 refine o_move ?_
 try dsimp only [putL, setL, evL, getL]
 refine HL_cons rfl ?_
 refine o_move ?_
 try dsimp only [putL, setL, evL, getL]
 replace H := headE H
 obtain ⟨u4, hu4, H⟩ := H
 refine HL_cons rfl ?_
 refine o_call (args := #[.slice A0p p0.length c0p, .slice A1p p1.length c1p]) Try.func231 rfl rfl rfl (spec_l7Asked.ok sb s no A0p c0p p0 A1p c1p p1 HRp0 HRp1 (Hp.own hH.bs) _ hu4) ?_
 rintro _ s4 ⟨rfl, hD⟩
 replace hH := hH.back0 hD (Up.refl _ _ _)
 clear hD
 dsimp only [addC, setC, rmC, selC, getC] at hH
 try dsimp only [putL, setL, evL, getL]
 refine HL_cons rfl ?_
 refine o_not rfl ?_
 try dsimp only [putL, setL, evL, getL]
 refine HL_nil ?_
 refine hK3 _ _ ?_
 rcases Bool.eq_false_or_eq_true (!u4) with hb5 | hb5
 ·replace H := iteT hb5 H
  refine HT_true (congrArg Value.bool hb5) ?_
  refine HT_seq_k ?_
  intro K6 hK6
  refine HT_region ?_
  refine HL_cons rfl ?_
  refine o_assign ?_
  try dsimp only [putL, setL, evL, getL]
  refine HL_cons rfl ?_
  refine o_assign ?_
  try dsimp only [putL, setL, evL, getL]
  refine HL_nil ?_
  refine hK6 _ _ ?_
  refine HT_ret ?_
  exact hQr _ _ [.slice none 0 0, .bool false] ⟨rfl, rfl, trivial⟩ (retH (fun r => spec_FindAll.post sb s F0 r _ _) (show some _ = some r from H) ⟨none, 0, rfl, (hH.nil (K := KS207) OS207 207)⟩)
 ·replace H := iteF hb5 H
  refine HT_false (congrArg Value.bool hb5) ?_
  refine HT_skip ?_
  refine hK2 _ _ ?_
  refine HT_seq_k ?_
  intro K7 hK7
  refine HT_region ?_
  refine HL_cons rfl ?_
  refine o_assign ?_
  try dsimp only [putL, setL, evL, getL]
  refine HL_nil ?_
  refine hK7 _ _ ?_
  refine joinH H fun G8 hG8 H => ?_
  refine HT_joinK (fun l' s' => ∃ (x76 : List ((Int) × (Int) × (Int))) (A76 : Option Addr) (c76 : Nat), G8 x76 = some r ∧ l' = [.slice A0p p0.length c0p, .slice A1p p1.length c1p, undef, undef, .slice none 0 0, .bool false, .slice A76 x76.length c76, getL l' 7, getL l' 8, getL l' 9, getL l' 10, getL l' 11, .slice A0p p0.length c0p, .slice A1p p1.length c1p, .bool u4, .bool (!u4), getL l' 16, getL l' 17, getL l' 18, getL l' 19, getL l' 20, getL l' 21, getL l' 22, getL l' 23, getL l' 24, getL l' 25, getL l' 26, getL l' 27, getL l' 28, getL l' 29, getL l' 30, getL l' 31, getL l' 32, getL l' 33, getL l' 34, getL l' 35, getL l' 36, getL l' 37, getL l' 38, getL l' 39, getL l' 40, getL l' 41, getL l' 42, getL l' 43, getL l' 44, getL l' 45, getL l' 46, getL l' 47, getL l' 48, getL l' 49, getL l' 50, getL l' 51, undef] ∧ Hp sb s F0 s' [Ck.ol OS207 207 A76 c76 x76]) ?_ ?_
  ·intro K8 hK8
   refine HT_seq_k ?_
   intro K77 hK77
   refine HT_region ?_
   refine HL_cons rfl ?_
   refine o_assign ?_
   try dsimp only [putL, setL, evL, getL]
   refine HL_nil ?_
   refine hK77 _ _ ?_
   refine HT_block ?_
   refine HT_loopK (fun kf l' s' => ∃ (x99 : List ((Int) × (Int) × (Int))) (A99 : Option Addr) (c99 : Nat) (x100 : Int), (spec_FindAll.l1 p0 p1 kf x99 x100).bind G8 = some r ∧ l' = [.slice A0p p0.length c0p, .slice A1p p1.length c1p, undef, undef, .slice none 0 0, .bool false, .slice A99 x99.length c99, .int .i64 x100, getL l' 8, getL l' 9, getL l' 10, getL l' 11, .slice A0p p0.length c0p, .slice A1p p1.length c1p, .bool u4, .bool (!u4), getL l' 16, getL l' 17, getL l' 18, getL l' 19, getL l' 20, getL l' 21, getL l' 22, getL l' 23, getL l' 24, getL l' 25, getL l' 26, getL l' 27, getL l' 28, getL l' 29, getL l' 30, getL l' 31, getL l' 32, getL l' 33, getL l' 34, getL l' 35, getL l' 36, getL l' 37, getL l' 38, getL l' 39, getL l' 40, getL l' 41, getL l' 42, getL l' 43, getL l' 44, getL l' 45, getL l' 46, getL l' 47, getL l' 48, getL l' 49, getL l' 50, getL l' 51, undef] ∧ Hp sb s F0 s' [Ck.ol OS207 207 A99 c99 x99]) ((((p1.length : Int)) - (0)).toNat + 2) ⟨[], none, 0, 0, H, rfl, (hH.nil (K := KS207) OS207 207)⟩ ?_
   rintro kf l' s123 ⟨x99, A99, c99, x100, H, hl, hH⟩ K123 hK123
   generalize getL l' 8 = j8, getL l' 9 = j9, getL l' 10 = j10, getL l' 11 = j11, getL l' 16 = j16, getL l' 17 = j17, getL l' 18 = j18, getL l' 19 = j19, getL l' 20 = j20, getL l' 21 = j21, getL l' 22 = j22, getL l' 23 = j23, getL l' 24 = j24, getL l' 25 = j25, getL l' 26 = j26, getL l' 27 = j27, getL l' 28 = j28, getL l' 29 = j29, getL l' 30 = j30, getL l' 31 = j31, getL l' 32 = j32, getL l' 33 = j33, getL l' 34 = j34, getL l' 35 = j35, getL l' 36 = j36, getL l' 37 = j37, getL l' 38 = j38, getL l' 39 = j39, getL l' 40 = j40, getL l' 41 = j41, getL l' 42 = j42, getL l' 43 = j43, getL l' 44 = j44, getL l' 45 = j45, getL l' 46 = j46, getL l' 47 = j47, getL l' 48 = j48, getL l' 49 = j49, getL l' 50 = j50, getL l' 51 = j51 at hl
   subst hl
   cases kf with
   | zero => simp [spec_FindAll.l1] at H
   | succ kf =>
    rw [spec_FindAll.l1] at H
    refine HT_seq_k ?_
    intro K124 hK124
    refine HT_seq_k ?_
    intro K125 hK125
    refine HT_region ?_
    refine HL_cons rfl ?_
    refine o_move ?_
    try dsimp only [putL, setL, evL, getL]
    refine HL_cons rfl ?_
    refine o_move ?_
    try dsimp only [putL, setL, evL, getL]
    refine HL_cons rfl ?_
    refine o_len rfl Try.underlying24 ?_
    try dsimp only [putL, setL, evL, getL]
    refine HL_cons rfl ?_
    refine o_bin rfl rfl rfl ?_
    try dsimp only [putL, setL, evL, getL]
    refine HL_nil ?_
    refine hK125 _ _ ?_
    rcases Bool.eq_false_or_eq_true (decide (x100 ≤ (p1.length : Int))) with hb126 | hb126
    ·replace H := iteT hb126 H
     refine HT_true (congrArg Value.bool hb126) ?_
     refine HT_skip ?_
     refine hK124 _ _ ?_
     refine HT_block ?_
     refine HT_seq_k ?_
     intro K127 hK127
     refine HT_region ?_
     refine HL_cons rfl ?_
     refine o_move ?_
     try dsimp only [putL, setL, evL, getL]
     refine HL_cons rfl ?_
     refine o_move ?_
     try dsimp only [putL, setL, evL, getL]
     refine HL_cons rfl ?_
     refine o_move ?_
     try dsimp only [putL, setL, evL, getL]
     replace H := headE H
     obtain ⟨x128, hx128, H⟩ := H
     refine HL_cons rfl ?_
     refine o_cutA (xs := p1) (kl := .i64) (kh := .i64) (L := x100) (H := (p1.length : Int)) rfl rfl rfl Try.underlying24 tI3 HRp1.1 hx128 ?_
     have D128 := HRp1.cut hx128
     try dsimp only [putL, setL, evL, getL]
     replace H := headE H
     obtain ⟨u129, hu129, H⟩ := H
     refine HL_cons rfl ?_
     refine o_call (args := #[.slice A0p p0.length c0p, .slice (cutA A1p c1p (Int.toNat x100) (Kd.sz KI)) x128.length (c1p - Int.toNat x100)]) Try.func232 rfl rfl rfl (spec_l7Find.ok sb s123 no A0p c0p p0 (cutA A1p c1p (Int.toNat x100) (Kd.sz KI)) (c1p - Int.toNat x100) x128 HRp0 D128 (Hp.own hH.bs) _ hu129) ?_
     rintro _ s129 ⟨rfl, hD⟩
     replace hH := hH.back0 hD (Up.refl _ _ _)
     clear hD
     dsimp only [addC, setC, rmC, selC, getC] at hH
     try dsimp only [putL, setL, evL, getL]
     refine HL_cons rfl ?_
     refine o_move ?_
     try dsimp only [putL, setL, evL, getL]
     refine HL_cons rfl ?_
     refine o_extract rfl rfl ?_
     try dsimp only [putL, setL, evL, getL]
     refine HL_cons rfl ?_
     refine o_extract rfl rfl ?_
     try dsimp only [putL, setL, evL, getL]
     refine HL_cons rfl ?_
     refine o_extract rfl rfl ?_
     try dsimp only [putL, setL, evL, getL]
     refine HL_cons rfl ?_
     refine o_assign ?_
     try dsimp only [putL, setL, evL, getL]
     refine HL_cons rfl ?_
     refine o_assign ?_
     try dsimp only [putL, setL, evL, getL]
     refine HL_cons rfl ?_
     refine o_assign ?_
     try dsimp only [putL, setL, evL, getL]
     refine HL_nil ?_
     refine hK127 _ _ ?_
     refine HT_seq_k ?_
     intro K130 hK130
     refine HT_seq_k ?_
     intro K131 hK131
     refine HT_region ?_
     refine HL_cons rfl ?_
     refine o_move ?_
     try dsimp only [putL, setL, evL, getL]
     refine HL_cons rfl ?_
     refine o_not rfl ?_
     try dsimp only [putL, setL, evL, getL]
     refine HL_nil ?_
     refine hK131 _ _ ?_
     rcases Bool.eq_false_or_eq_true (!u129.2.2) with hb132 | hb132
     ·replace H := iteT hb132 H
      refine HT_true (congrArg Value.bool hb132) ?_
      refine HT_exit ?_
      exact hK8 _ _ ⟨x99, A99, c99, H, rfl, hH⟩
     ·replace H := iteF hb132 H
      refine HT_false (congrArg Value.bool hb132) ?_
      refine HT_skip ?_
      refine hK130 _ _ ?_
      refine HT_seq_k ?_
      intro K133 hK133
      refine HT_region ?_
      refine HL_cons rfl ?_
      refine o_move ?_
      try dsimp only [putL, setL, evL, getL]
      refine HL_cons rfl ?_
      refine o_move ?_
      try dsimp only [putL, setL, evL, getL]
      refine HL_cons rfl ?_
      refine o_len rfl Try.underlying203 ?_
      try dsimp only [putL, setL, evL, getL]
      refine HL_cons rfl ?_
      refine o_move ?_
      try dsimp only [putL, setL, evL, getL]
      refine HL_cons rfl ?_
      refine o_move ?_
      try dsimp only [putL, setL, evL, getL]
      refine HL_cons rfl ?_
      refine o_bin rfl rfl rfl ?_
      try dsimp only [putL, setL, evL, getL]
      refine HL_cons rfl ?_
      refine o_move ?_
      try dsimp only [putL, setL, evL, getL]
      refine HL_cons rfl ?_
      refine o_move ?_
      try dsimp only [putL, setL, evL, getL]
      refine HL_cons rfl ?_
      refine o_bin rfl rfl rfl ?_
      try dsimp only [putL, setL, evL, getL]
      refine HL_cons rfl ?_
      refine o_build (pl := [(0, 1), (1, 1), (2, 1)]) (cs := #[.int .i64 (x99.length : Int), .int .i64 (IntKind.i64.wrap (x100 + u129.1)), .int .i64 (IntKind.i64.wrap (x100 + u129.2.1))]) Try.underlying207 tI207 (by kernel_rfl) (by kernel_rfl) rfl ?_
      try dsimp only [putL, setL, evL, getL]
      refine HL_cons rfl ?_
      refine o_litF (K := KS207) (O := OS207) (ca := #[.int .i64 (x99.length : Int), .int .i64 (IntKind.i64.wrap (x100 + u129.1)), .int .i64 (IntKind.i64.wrap (x100 + u129.2.1))]) [[.int .i64 (x99.length : Int), .int .i64 (IntKind.i64.wrap (x100 + u129.1)), .int .i64 (IntKind.i64.wrap (x100 + u129.2.1))]] [((x99.length : Int), IntKind.i64.wrap (x100 + u129.1), IntKind.i64.wrap (x100 + u129.2.1))] hH Try.underlying203 tI207 rfl (by decide) rfl rfl (by kernel_rfl) rfl ⟨rfl, Ent.own (Ent.pair (v1 := [.int .i64 (x99.length : Int)]) (v2 := [.int .i64 (IntKind.i64.wrap (x100 + u129.1)), .int .i64 (IntKind.i64.wrap (x100 + u129.2.1))]) (x1 := (x99.length : Int)) (x2 := (IntKind.i64.wrap (x100 + u129.1), IntKind.i64.wrap (x100 + u129.2.1))) (Ent.flat rfl) (Ent.pair (v1 := [.int .i64 (IntKind.i64.wrap (x100 + u129.1))]) (v2 := [.int .i64 (IntKind.i64.wrap (x100 + u129.2.1))]) (x1 := IntKind.i64.wrap (x100 + u129.1)) (x2 := IntKind.i64.wrap (x100 + u129.2.1)) (Ent.flat rfl) (Ent.flat rfl))), trivial⟩ ?_
      intro A134 s134 hH' hG
      replace hH : Hp sb s F0 s134 [Ck.ol OS207 207 A99 c99 x99, Ck.ol OS207 207 A134 1 [((x99.length : Int), IntKind.i64.wrap (x100 + u129.1), IntKind.i64.wrap (x100 + u129.2.1))]] := hH'
      clear hH' hG
      try dsimp only [putL, setL, evL, getL]
      replace H := headE H
      obtain ⟨x135, hx135, H⟩ := H
      refine HL_cons rfl ?_
      refine o_appF (K := KS207) (n := 5864062014805) (A := A99) (c := c99) (xs := x99) (ys := [((x99.length : Int), IntKind.i64.wrap (x100 + u129.1), IntKind.i64.wrap (x100 + u129.2.1))]) (B := A134) (c2 := 1) hH 0 rfl rfl rfl rfl Try.underlying203 tI207 rfl (by decide) (by decide) (by decide) (Src.flat (hH.rd 1 rfl)) hx135 ?_
      intro A135 c135 s135 hH'
      replace hH : Hp sb s F0 s135 [Ck.ol OS207 207 A135 c135 x135, Ck.ol OS207 207 A134 1 [((x99.length : Int), IntKind.i64.wrap (x100 + u129.1), IntKind.i64.wrap (x100 + u129.2.1))]] := hH'
      clear hH'
      try dsimp only [putL, setL, evL, getL]
      refine HL_cons rfl ?_
      refine o_assign ?_
      try dsimp only [putL, setL, evL, getL]
      refine HL_nil ?_
      refine hK133 _ _ ?_
      refine HT_seq_k ?_
      intro K136 hK136
      refine HT_region ?_
      refine HL_cons rfl ?_
      refine o_move ?_
      try dsimp only [putL, setL, evL, getL]
      refine HL_cons rfl ?_
      refine o_move ?_
      try dsimp only [putL, setL, evL, getL]
      refine HL_cons rfl ?_
      refine o_bin rfl rfl rfl ?_
      try dsimp only [putL, setL, evL, getL]
      refine HL_cons rfl ?_
      refine o_assign ?_
      try dsimp only [putL, setL, evL, getL]
      refine HL_nil ?_
      refine hK136 _ _ ?_
      refine joinH H fun G137 hG137 H => ?_
      refine HT_joinK (fun l' s' => ∃ (x140 : Int), G137 x140 = some r ∧ l' = [.slice A0p p0.length c0p, .slice A1p p1.length c1p, undef, undef, .slice none 0 0, .bool false, .slice A135 x135.length c135, .int .i64 x100, .int .i64 u129.1, .int .i64 u129.2.1, .bool u129.2.2, .int .i64 x140, .slice A0p p0.length c0p, .slice A1p p1.length c1p, .bool u4, .bool (!u4), .int .i64 x100, .slice A1p p1.length c1p, .int .i64 (p1.length : Int), .bool (decide (x100 ≤ (p1.length : Int))), .tuple #[.int .i64 u129.1, .int .i64 u129.2.1, .bool u129.2.2], .slice A0p p0.length c0p, .slice A1p p1.length c1p, .int .i64 x100, .slice (cutA A1p c1p (Int.toNat x100) (Kd.sz KI)) x128.length (c1p - Int.toNat x100), .tuple #[.int .i64 u129.1, .int .i64 u129.2.1, .bool u129.2.2], .int .i64 u129.1, .int .i64 u129.2.1, .bool u129.2.2, .bool u129.2.2, .bool (!u129.2.2), .slice A99 x99.length c99, .slice A99 x99.length c99, .int .i64 (x99.length : Int), .int .i64 x100, .int .i64 u129.1, .int .i64 (IntKind.i64.wrap (x100 + u129.1)), .int .i64 x100, .int .i64 u129.2.1, .int .i64 (IntKind.i64.wrap (x100 + u129.2.1)), .agg #[.int .i64 (x99.length : Int), .int .i64 (IntKind.i64.wrap (x100 + u129.1)), .int .i64 (IntKind.i64.wrap (x100 + u129.2.1))], .slice A134 [((x99.length : Int), IntKind.i64.wrap (x100 + u129.1), IntKind.i64.wrap (x100 + u129.2.1))].length 1, .slice A135 x135.length c135, .int .i64 x100, .int .i64 u129.2.1, .int .i64 (IntKind.i64.wrap (x100 + u129.2.1)), getL l' 46, getL l' 47, getL l' 48, getL l' 49, getL l' 50, j51, undef] ∧ Hp sb s F0 s' [Ck.ol OS207 207 A135 c135 x135]) ?_ ?_
      ·intro K137 hK137
       refine HT_seq_k ?_
       intro K141 hK141
       refine HT_region ?_
       refine HL_cons rfl ?_
       refine o_move ?_
       try dsimp only [putL, setL, evL, getL]
       refine HL_cons rfl ?_
       refine o_move ?_
       try dsimp only [putL, setL, evL, getL]
       refine HL_cons rfl ?_
       refine o_bin rfl rfl rfl ?_
       try dsimp only [putL, setL, evL, getL]
       refine HL_nil ?_
       refine hK141 _ _ ?_
       rcases Bool.eq_false_or_eq_true (u129.1 == u129.2.1) with hb142 | hb142
       ·replace H := iteT hb142 H
        refine HT_true (congrArg Value.bool hb142) ?_
        refine HT_region ?_
        refine HL_cons rfl ?_
        refine o_move ?_
        try dsimp only [putL, setL, evL, getL]
        refine HL_cons rfl ?_
        refine o_bin rfl rfl rfl ?_
        try dsimp only [putL, setL, evL, getL]
        refine HL_cons rfl ?_
        refine o_assign ?_
        try dsimp only [putL, setL, evL, getL]
        refine HL_nil ?_
        exact hK137 _ _ ⟨IntKind.i64.wrap ((IntKind.i64.wrap (x100 + u129.2.1)) + 1), H, rfl, hH.sel [0] (by decide)⟩
       ·replace H := iteF hb142 H
        refine HT_false (congrArg Value.bool hb142) ?_
        refine HT_skip ?_
        exact hK137 _ _ ⟨IntKind.i64.wrap (x100 + u129.2.1), H, rfl, hH.sel [0] (by decide)⟩
      ·rintro l' s143 ⟨x140, H, hl, hH⟩
       generalize getL l' 46 = j46, getL l' 47 = j47, getL l' 48 = j48, getL l' 49 = j49, getL l' 50 = j50 at hl
       subst hl
       replace H := hG137 _ H
       try dsimp only at H
       refine HT_region ?_
       refine HL_cons rfl ?_
       refine o_move ?_
       try dsimp only [putL, setL, evL, getL]
       refine HL_cons rfl ?_
       refine o_assign ?_
       try dsimp only [putL, setL, evL, getL]
       refine HL_nil ?_
       exact hK123 _ _ ⟨kf, Nat.lt_succ_self kf, x135, A135, c135, x140, H, rfl, hH⟩
    ·replace H := iteF hb126 H
     refine HT_false (congrArg Value.bool hb126) ?_
     refine HT_exit ?_
     exact hK8 _ _ ⟨x99, A99, c99, H, rfl, hH⟩
  ·rintro l' s144 ⟨x76, A76, c76, H, hl, hH⟩
   generalize getL l' 7 = j7, getL l' 8 = j8, getL l' 9 = j9, getL l' 10 = j10, getL l' 11 = j11, getL l' 16 = j16, getL l' 17 = j17, getL l' 18 = j18, getL l' 19 = j19, getL l' 20 = j20, getL l' 21 = j21, getL l' 22 = j22, getL l' 23 = j23, getL l' 24 = j24, getL l' 25 = j25, getL l' 26 = j26, getL l' 27 = j27, getL l' 28 = j28, getL l' 29 = j29, getL l' 30 = j30, getL l' 31 = j31, getL l' 32 = j32, getL l' 33 = j33, getL l' 34 = j34, getL l' 35 = j35, getL l' 36 = j36, getL l' 37 = j37, getL l' 38 = j38, getL l' 39 = j39, getL l' 40 = j40, getL l' 41 = j41, getL l' 42 = j42, getL l' 43 = j43, getL l' 44 = j44, getL l' 45 = j45, getL l' 46 = j46, getL l' 47 = j47, getL l' 48 = j48, getL l' 49 = j49, getL l' 50 = j50, getL l' 51 = j51 at hl
   subst hl
   replace H := hG8 _ H
   try dsimp only at H
   refine HT_seq_k ?_
   intro K145 hK145
   refine HT_region ?_
   refine HL_cons rfl ?_
   refine o_move ?_
   try dsimp only [putL, setL, evL, getL]
   refine HL_cons rfl ?_
   refine o_assign ?_
   try dsimp only [putL, setL, evL, getL]
   refine HL_cons rfl ?_
   refine o_assign ?_
   try dsimp only [putL, setL, evL, getL]
   refine HL_nil ?_
   refine hK145 _ _ ?_
   refine HT_ret ?_
   exact hQr _ _ [.slice A76 x76.length c76, .bool true] ⟨rfl, rfl, trivial⟩ (retH (fun r => spec_FindAll.post sb s F0 r _ _) (show some _ = some r from H) ⟨A76, c76, rfl, hH⟩)
def spec_l1Own.f (p0 : List (Int)) : Option (List (Int)) := (app? 17592186044416 ([] : List (Int)) p0).bind fun x4 => some x4
def spec_l1Own.post (sb s : St) (F0 : Fp) (r : (List (Int))) : Value → St → Prop := fun v s' => ∃ (A0 : Option Addr) (c0 : Nat), v = .slice A0 r.length c0 ∧ Hp sb s F0 s' [Ck.ol OI 3 A0 c0 r]
set_option maxRecDepth 100000 in
set_option maxHeartbeats 4000000 in
theorem spec_l1Own.ok (sb s : St) (F0 : Fp) (A0p : Option Addr) (c0p : Nat) (p0 : List (Int)) (HRp0 : Rd KI sb A0p c0p p0) (hH : Hp sb s F0 s []) (r : (List (Int))) (H : spec_l1Own.f p0 = some r) : GCall Try.prog 144 #[.slice A0p p0.length c0p] s (spec_l1Own.post sb s F0 r) := by
 refine GCall_ofk [.tmp 2] [.slice A0p p0.length c0p, undef, undef, undef, undef, undef] Try.func144 rfl rfl rfl ?_
 intro w Q hQr hQn hQp
 replace H := topE H
 unfold spec_l1Own.f at H
 refine HT_seq_k ?_
 intro K1 hK1
 refine HT_region ?_
 refine HL_cons rfl ?_
 refine o_assign ?_
 try dsimp only [putL, setL, evL, getL]
 refine HL_nil ?_
 refine hK1 _ _ ?_
 refine HT_seq_k ?_
 intro K2 hK2
 refine HT_region ?_
 refine HL_cons rfl ?_
 refine o_lit0H (α := Int) (K := KI) (O := OI) hH Try.underlying24 tI3 ?_
 intro A3 s3 hH' hG
 replace hH : Hp sb s F0 s3 [Ck.ol OI 3 A3 0 ([] : List (Int))] := hH'
 clear hH' hG
 try dsimp only [putL, setL, evL, getL]
 refine HL_cons rfl ?_
 refine o_move ?_
 try dsimp only [putL, setL, evL, getL]
 replace H := headE H
 obtain ⟨x4, hx4, H⟩ := H
 refine HL_cons rfl ?_
 refine o_appF (K := KI) (n := 17592186044416) (A := A3) (c := 0) (xs := ([] : List (Int))) (ys := p0) (B := A0p) (c2 := c0p) hH 0 rfl rfl rfl rfl Try.underlying24 tI3 rfl (by decide) (by decide) (by decide) (Src.flat (HRp0.mono hH.bs.mono)) hx4 ?_
 intro A4 c4 s4 hH'
 replace hH : Hp sb s F0 s4 [Ck.ol OI 3 A4 c4 x4] := hH'
 clear hH'
 try dsimp only [putL, setL, evL, getL]
 refine HL_cons rfl ?_
 refine o_assign ?_
 try dsimp only [putL, setL, evL, getL]
 refine HL_nil ?_
 refine hK2 _ _ ?_
 refine HT_ret ?_
 exact hQr _ _ [.slice A4 x4.length c4] ⟨rfl, trivial⟩ (retH (fun r => spec_l1Own.post sb s F0 r _ _) (show some _ = some r from H) ⟨A4, c4, rfl, hH⟩)
def spec_l14Between.l1 (p1 : List (Int)) (u3 : (List ((Int) × (Int) × (Int))) × Bool) : Nat → (List (List (Int))) → Int → Int → Option ((List (List (Int))) × Int)
 | 0, _, _, _ => none
 | kf + 1, x77, x78, x79 => if (decide (x79 < (u3.1.length : Int))) = true then ((rd? u3.1 x79).bind fun u103 => (cut? p1 x78 u103.2.1).bind fun x107 => (spec_l1Own.f x107).bind fun u108 => (app? 5864062014805 x77 [u108]).bind fun x111 => spec_l14Between.l1 p1 u3 kf x111 u103.2.2 (IntKind.i64.wrap (x79 + 1))) else (some (x77, x78))
def spec_l14Between.f (p0 : List ((Int) × (List (Int)))) (p1 : List (Int)) : Option (List (List (Int))) := (spec_FindAll.f p0 p1).bind fun u3 => (spec_l14Between.l1 p1 u3 ((((u3.1.length : Int)) - (0)).toNat + 2) [] 0 0).bind fun (o : (List (List (Int))) × Int) => match o with | (x60, x61) => ((cut? p1 x61 (p1.length : Int)).bind fun x114 => (spec_l1Own.f x114).bind fun u115 => (app? 5864062014805 x60 [u115]).bind fun x118 => some x118)
def spec_l14Between.post (sb s : St) (F0 : Fp) (r : (List (List (Int)))) : Value → St → Prop := fun v s' => ∃ (A0 : Option Addr) (c0 : Nat), v = .slice A0 r.length c0 ∧ Hp sb s F0 s' [Ck.ol (Ow.sl OI 3) 24 A0 c0 r]
set_option maxRecDepth 100000 in
set_option maxHeartbeats 4000000 in
theorem spec_l14Between.ok (sb s : St) (F0 : Fp) (A0p : Option Addr) (c0p : Nat) (p0 : List ((Int) × (List (Int)))) (A1p : Option Addr) (c1p : Nat) (p1 : List (Int)) (HRp0 : Rd KS139 sb A0p c0p p0) (HRp1 : Rd KI sb A1p c1p p1) (hH : Hp sb s F0 s []) (r : (List (List (Int)))) (H : spec_l14Between.f p0 p1 = some r) : GCall Try.prog 172 #[.slice A0p p0.length c0p, .slice A1p p1.length c1p] s (spec_l14Between.post sb s F0 r) := by
 refine GCall_ofk [.tmp 4] [.slice A0p p0.length c0p, .slice A1p p1.length c1p, undef, undef, undef, undef, undef, undef, undef, undef, undef, undef, undef, undef, undef, undef, undef, undef, undef, undef, undef, undef, undef, undef, undef, undef, undef, undef, undef, undef, undef, undef, undef, undef, undef, undef, undef, undef, undef, undef, undef, undef] Try.func172 rfl rfl rfl ?_
 intro w Q hQr hQn hQp
 replace H := topE H
 unfold spec_l14Between.f at H
 refine HT_seq_k ?_
 intro K1 hK1
 refine HT_region ?_
 refine HL_cons rfl ?_
 refine o_assign ?_
 try dsimp only [putL, setL, evL, getL]
 refine HL_nil ?_
 refine hK1 _ _ ?_
 refine HT_seq_k ?_
 intro K2 hK2
 refine HT_region ?_
 refine HL_cons rfl ?_
 refine o_move ?_
 try dsimp only [putL, setL, evL, getL]
 refine HL_cons rfl ?_
 refine o_move ?_
 try dsimp only [putL, setL, evL, getL]
 replace H := headE H
 obtain ⟨u3, hu3, H⟩ := H
 refine HL_cons rfl ?_
 refine o_call (args := #[.slice A0p p0.length c0p, .slice A1p p1.length c1p]) Try.func214 rfl rfl rfl (spec_FindAll.ok sb s no A0p c0p p0 A1p c1p p1 HRp0 HRp1 (Hp.own hH.bs) _ hu3) ?_
 rintro _ s3 ⟨A4, c4, rfl, hD⟩
 replace hH := hH.back0 hD (Up.refl _ _ _)
 clear hD
 dsimp only [addC, setC, rmC, selC, getC] at hH
 try dsimp only [putL, setL, evL, getL]
 refine HL_cons rfl ?_
 refine o_move ?_
 try dsimp only [putL, setL, evL, getL]
 refine HL_cons rfl ?_
 refine o_extract rfl rfl ?_
 try dsimp only [putL, setL, evL, getL]
 refine HL_cons rfl ?_
 refine o_extract rfl rfl ?_
 try dsimp only [putL, setL, evL, getL]
 refine HL_cons rfl ?_
 refine o_assign ?_
 try dsimp only [putL, setL, evL, getL]
 refine HL_cons rfl ?_
 refine o_assign ?_
 try dsimp only [putL, setL, evL, getL]
 refine HL_nil ?_
 refine hK2 _ _ ?_
 refine HT_seq_k ?_
 intro K5 hK5
 refine HT_region ?_
 refine HL_cons rfl ?_
 refine o_assign ?_
 try dsimp only [putL, setL, evL, getL]
 refine HL_nil ?_
 refine hK5 _ _ ?_
 refine HT_seq_k ?_
 intro K6 hK6
 refine HT_region ?_
 refine HL_cons rfl ?_
 refine o_assign ?_
 try dsimp only [putL, setL, evL, getL]
 refine HL_nil ?_
 refine hK6 _ _ ?_
 refine HT_seq_k ?_
 intro K7 hK7
 refine HT_seq_k ?_
 intro K8 hK8
 refine HT_region ?_
 refine HL_cons rfl ?_
 refine o_move ?_
 try dsimp only [putL, setL, evL, getL]
 refine HL_cons rfl ?_
 refine o_len rfl Try.underlying203 ?_
 try dsimp only [putL, setL, evL, getL]
 refine HL_cons rfl ?_
 refine o_move ?_
 try dsimp only [putL, setL, evL, getL]
 refine HL_nil ?_
 refine hK8 _ _ ?_
 refine joinH H fun G9 hG9 H => ?_
 refine HT_toK (fun l' s' => ∃ (x60 : List (List (Int))) (A60 : Option Addr) (c60 : Nat) (x61 : Int), G9 (x60, x61) = some r ∧ l' = [.slice A0p p0.length c0p, .slice A1p p1.length c1p, undef, undef, .slice none 0 0, .slice A4 u3.1.length c4, .bool u3.2, .slice A60 x60.length c60, .int .i64 x61, undef, getL l' 10, .tuple #[.slice A4 u3.1.length c4, .bool u3.2], .slice A0p p0.length c0p, .slice A1p p1.length c1p, .tuple #[.slice A4 u3.1.length c4, .bool u3.2], .slice A4 u3.1.length c4, .bool u3.2, .slice A4 u3.1.length c4, .int .i64 (u3.1.length : Int), getL l' 19, getL l' 20, getL l' 21, getL l' 22, getL l' 23, getL l' 24, getL l' 25, getL l' 26, getL l' 27, getL l' 28, getL l' 29, getL l' 30, getL l' 31, getL l' 32, getL l' 33, getL l' 34, undef, undef, undef, undef, undef, undef, undef] ∧ Hp sb s F0 s' [Ck.ol (Ow.sl OI 3) 24 A60 c60 x60]) ?_ ?_
 ·intro K9 hK9
  refine HT_block ?_
  refine HT_loopK (fun kf l' s' => ∃ (x77 : List (List (Int))) (A77 : Option Addr) (c77 : Nat) (x78 : Int) (x79 : Int), (spec_l14Between.l1 p1 u3 kf x77 x78 x79).bind G9 = some r ∧ l' = [.slice A0p p0.length c0p, .slice A1p p1.length c1p, undef, undef, .slice none 0 0, .slice A4 u3.1.length c4, .bool u3.2, .slice A77 x77.length c77, .int .i64 x78, undef, getL l' 10, .tuple #[.slice A4 u3.1.length c4, .bool u3.2], .slice A0p p0.length c0p, .slice A1p p1.length c1p, .tuple #[.slice A4 u3.1.length c4, .bool u3.2], .slice A4 u3.1.length c4, .bool u3.2, .slice A4 u3.1.length c4, .int .i64 (u3.1.length : Int), .int .i64 x79, getL l' 20, getL l' 21, getL l' 22, getL l' 23, getL l' 24, getL l' 25, getL l' 26, getL l' 27, getL l' 28, getL l' 29, getL l' 30, getL l' 31, getL l' 32, getL l' 33, getL l' 34, undef, undef, undef, undef, undef, undef, undef] ∧ Hp sb s F0 s' [Ck.ol (Ow.sl OI 3) 24 A77 c77 x77, Ck.ol OS207 207 A4 c4 u3.1]) ((((u3.1.length : Int)) - (0)).toNat + 2) ⟨[], none, 0, 0, 0, H, rfl, (hH.nil (K := (Kd.sl KI)) (Ow.sl OI 3) 24).sel [1, 0] (by decide)⟩ ?_
  rintro kf l' s97 ⟨x77, A77, c77, x78, x79, H, hl, hH⟩ K97 hK97
  generalize getL l' 10 = j10, getL l' 20 = j20, getL l' 21 = j21, getL l' 22 = j22, getL l' 23 = j23, getL l' 24 = j24, getL l' 25 = j25, getL l' 26 = j26, getL l' 27 = j27, getL l' 28 = j28, getL l' 29 = j29, getL l' 30 = j30, getL l' 31 = j31, getL l' 32 = j32, getL l' 33 = j33, getL l' 34 = j34 at hl
  subst hl
  cases kf with
  | zero => simp [spec_l14Between.l1] at H
  | succ kf =>
   rw [spec_l14Between.l1] at H
   refine HT_seq_k ?_
   intro K98 hK98
   refine HT_region ?_
   refine HL_cons rfl ?_
   refine o_bin rfl rfl rfl ?_
   try dsimp only [putL, setL, evL, getL]
   refine HL_nil ?_
   refine hK98 _ _ ?_
   refine HT_seq_k ?_
   intro K99 hK99
   rcases Bool.eq_false_or_eq_true (decide (x79 < (u3.1.length : Int))) with hb100 | hb100
   ·replace H := iteT hb100 H
    refine HT_true (congrArg Value.bool hb100) ?_
    refine HT_skip ?_
    refine hK99 _ _ ?_
    refine HT_seq_k ?_
    intro K101 hK101
    refine HT_block ?_
    refine HT_seq_k ?_
    intro K102 hK102
    refine HT_region ?_
    replace H := headE H
    obtain ⟨u103, hu103, H⟩ := H
    obtain ⟨b103, o103, cs103, hA103, hr103, hh103, hel103⟩ := hH.elo 1 rfl hu103
    obtain ⟨_, _, rfl, rfl, ⟨_, _, rfl, rfl, rfl⟩⟩ := hr103
    refine HL_cons rfl ?_
    refine hel103 s97 rfl rfl Try.underlying203 tI207 ?_
    try dsimp only [putL, setL, evL, getL]
    refine HL_cons rfl ?_
    refine o_loads' [.int .i64 u103.1, .int .i64 u103.2.1, .int .i64 u103.2.2] rfl Try.underlying207 rfl tI207 rfl (fun j v hj => hh103 j v hj) ?_
    try dsimp only [putL, setL, evL, getL]
    refine HL_cons rfl ?_
    refine o_allocH hH tI207 ?_
    intro b104 s104 hH' hG
    replace hH : Hp sb s F0 s104 [Ck.ol (Ow.sl OI 3) 24 A77 c77 x77, Ck.ol OS207 207 A4 c4 u3.1, Ck.ov b104 [.int .i64 0, .int .i64 0, .int .i64 0] 207] := hH'
    clear hH' hG
    try dsimp only [putL, setL, evL, getL]
    refine HL_cons rfl ?_
    refine o_stvH (vs := [.int .i64 u103.1, .int .i64 u103.2.1, .int .i64 u103.2.2]) (us' := [.int .i64 u103.1, .int .i64 u103.2.1, .int .i64 u103.2.2]) hH 2 rfl rfl rfl rfl rfl tI207 rfl (List.cons_ne_nil _ _) rfl rfl rfl ?_
    intro s105 hH'
    replace hH : Hp sb s F0 s105 [Ck.ol (Ow.sl OI 3) 24 A77 c77 x77, Ck.ol OS207 207 A4 c4 u3.1, Ck.ov b104 [.int .i64 u103.1, .int .i64 u103.2.1, .int .i64 u103.2.2] 207] := hH'
    clear hH'
    try dsimp only [putL, setL, evL, getL]
    refine HL_nil ?_
    refine hK102 _ _ ?_
    refine HT_seq_k ?_
    intro K106 hK106
    refine HT_region ?_
    refine HL_cons rfl ?_
    refine o_move ?_
    try dsimp only [putL, setL, evL, getL]
    refine HL_cons rfl ?_
    refine o_move ?_
    try dsimp only [putL, setL, evL, getL]
    refine HL_cons rfl ?_
    refine o_move ?_
    try dsimp only [putL, setL, evL, getL]
    refine HL_cons rfl ?_
    refine o_faddr' (ft := 3) (off := 1) rfl Try.underlying207 rfl tI3 (by decide) ?_
    try dsimp only [putL, setL, evL, getL]
    refine HL_cons rfl ?_
    refine o_load' rfl Try.underlying3 rfl (hH.hasv 2 rfl rfl) ?_
    try dsimp only [putL, setL, evL, getL]
    replace H := headE H
    obtain ⟨x107, hx107, H⟩ := H
    refine HL_cons rfl ?_
    refine o_cutA (xs := p1) (kl := .i64) (kh := .i64) (L := x78) (H := u103.2.1) rfl rfl rfl Try.underlying24 tI3 HRp1.1 hx107 ?_
    have D107 := HRp1.cut hx107
    try dsimp only [putL, setL, evL, getL]
    replace H := headE H
    obtain ⟨u108, hu108, H⟩ := H
    refine HL_cons rfl ?_
    refine o_call (args := #[.slice (cutA A1p c1p (Int.toNat x78) (Kd.sz KI)) x107.length (c1p - Int.toNat x78)]) Try.func144 rfl rfl rfl (spec_l1Own.ok sb s105 no (cutA A1p c1p (Int.toNat x78) (Kd.sz KI)) (c1p - Int.toNat x78) x107 D107 (Hp.own hH.bs) _ hu108) ?_
    rintro _ s108 ⟨A109, c109, rfl, hD⟩
    replace hH := hH.back0 hD (Up.refl _ _ _)
    clear hD
    dsimp only [addC, setC, rmC, selC, getC] at hH
    try dsimp only [putL, setL, evL, getL]
    replace hH := hH.conv [3] (by decide) (d := Ck.el (Ow.sl OI 3) [.slice A109 u108.length c109] u108) Ent.sl
    dsimp only [addC, setC, rmC, selC, getC] at hH
    refine HL_cons rfl ?_
    refine o_litD (K := (Kd.sl KI)) (O := (Ow.sl OI 3)) (ca := #[.slice A109 u108.length c109]) [[.slice A109 u108.length c109]] [u108] hH [4] (by decide) rfl Try.underlying105 tI24 rfl (by decide) rfl rfl rfl rfl (by kernel_rfl) rfl ?_
    intro A110 s110 hH' hG
    replace hH : Hp sb s F0 s110 [Ck.ol (Ow.sl OI 3) 24 A77 c77 x77, Ck.ol OS207 207 A4 c4 u3.1, Ck.ov b104 [.int .i64 u103.1, .int .i64 u103.2.1, .int .i64 u103.2.2] 207, Ck.emp, Ck.emp, Ck.ol (Ow.sl OI 3) 24 A110 1 [u108]] := hH'
    clear hH' hG
    try dsimp only [putL, setL, evL, getL]
    replace H := headE H
    obtain ⟨x111, hx111, H⟩ := H
    refine HL_cons rfl ?_
    refine o_appD (K := (Kd.sl KI)) (n := 5864062014805) (A := A77) (c := c77) (xs := x77) (ys := [u108]) (B := A110) (c2 := 1) hH 0 5 (by decide) rfl rfl rfl rfl rfl Try.underlying105 tI24 rfl (by decide) (by decide) (by decide) hx111 ?_
    intro A111 c111 s111 hH'
    replace hH : Hp sb s F0 s111 [Ck.ol (Ow.sl OI 3) 24 A111 c111 x111, Ck.ol OS207 207 A4 c4 u3.1, Ck.ov b104 [.int .i64 u103.1, .int .i64 u103.2.1, .int .i64 u103.2.2] 207, Ck.emp, Ck.emp, Ck.emp] := hH'
    clear hH'
    try dsimp only [putL, setL, evL, getL]
    refine HL_cons rfl ?_
    refine o_assign ?_
    try dsimp only [putL, setL, evL, getL]
    refine HL_nil ?_
    refine hK106 _ _ ?_
    refine HT_region ?_
    refine HL_cons rfl ?_
    refine o_faddr' (ft := 3) (off := 2) rfl Try.underlying207 rfl tI3 (by decide) ?_
    try dsimp only [putL, setL, evL, getL]
    refine HL_cons rfl ?_
    refine o_load' rfl Try.underlying3 rfl (hH.hasv 2 rfl rfl) ?_
    try dsimp only [putL, setL, evL, getL]
    refine HL_cons rfl ?_
    refine o_assign ?_
    try dsimp only [putL, setL, evL, getL]
    refine HL_nil ?_
    refine hK101 _ _ ?_
    refine HT_region ?_
    refine HL_cons rfl ?_
    refine o_bin rfl rfl rfl ?_
    try dsimp only [putL, setL, evL, getL]
    refine HL_cons rfl ?_
    refine o_move ?_
    try dsimp only [putL, setL, evL, getL]
    refine HL_nil ?_
    exact hK97 _ _ ⟨kf, Nat.lt_succ_self kf, x111, A111, c111, u103.2.2, IntKind.i64.wrap (x79 + 1), H, rfl, hH.sel [0, 1] (by decide)⟩
   ·replace H := iteF hb100 H
    refine HT_false (congrArg Value.bool hb100) ?_
    refine HT_exit ?_
    exact hK9 _ _ ⟨x77, A77, c77, x78, H, rfl, hH.sel [0] (by decide)⟩
 ·rintro l' s112 ⟨x60, A60, c60, x61, H, hl, hH⟩
  generalize getL l' 10 = j10, getL l' 19 = j19, getL l' 20 = j20, getL l' 21 = j21, getL l' 22 = j22, getL l' 23 = j23, getL l' 24 = j24, getL l' 25 = j25, getL l' 26 = j26, getL l' 27 = j27, getL l' 28 = j28, getL l' 29 = j29, getL l' 30 = j30, getL l' 31 = j31, getL l' 32 = j32, getL l' 33 = j33, getL l' 34 = j34 at hl
  subst hl
  replace H := hG9 _ H
  try dsimp only at H
  refine hK7 _ _ ?_
  refine HT_seq_k ?_
  intro K113 hK113
  refine HT_region ?_
  refine HL_cons rfl ?_
  refine o_move ?_
  try dsimp only [putL, setL, evL, getL]
  refine HL_cons rfl ?_
  refine o_move ?_
  try dsimp only [putL, setL, evL, getL]
  refine HL_cons rfl ?_
  refine o_move ?_
  try dsimp only [putL, setL, evL, getL]
  replace H := headE H
  obtain ⟨x114, hx114, H⟩ := H
  refine HL_cons rfl ?_
  refine o_cutA (xs := p1) (kl := .i64) (kh := .i64) (L := x61) (H := (p1.length : Int)) rfl rfl rfl Try.underlying24 tI3 HRp1.1 hx114 ?_
  have D114 := HRp1.cut hx114
  try dsimp only [putL, setL, evL, getL]
  replace H := headE H
  obtain ⟨u115, hu115, H⟩ := H
  refine HL_cons rfl ?_
  refine o_call (args := #[.slice (cutA A1p c1p (Int.toNat x61) (Kd.sz KI)) x114.length (c1p - Int.toNat x61)]) Try.func144 rfl rfl rfl (spec_l1Own.ok sb s112 no (cutA A1p c1p (Int.toNat x61) (Kd.sz KI)) (c1p - Int.toNat x61) x114 D114 (Hp.own hH.bs) _ hu115) ?_
  rintro _ s115 ⟨A116, c116, rfl, hD⟩
  replace hH := hH.back0 hD (Up.refl _ _ _)
  clear hD
  dsimp only [addC, setC, rmC, selC, getC] at hH
  try dsimp only [putL, setL, evL, getL]
  replace hH := hH.conv [1] (by decide) (d := Ck.el (Ow.sl OI 3) [.slice A116 u115.length c116] u115) Ent.sl
  dsimp only [addC, setC, rmC, selC, getC] at hH
  refine HL_cons rfl ?_
  refine o_litD (K := (Kd.sl KI)) (O := (Ow.sl OI 3)) (ca := #[.slice A116 u115.length c116]) [[.slice A116 u115.length c116]] [u115] hH [2] (by decide) rfl Try.underlying105 tI24 rfl (by decide) rfl rfl rfl rfl (by kernel_rfl) rfl ?_
  intro A117 s117 hH' hG
  replace hH : Hp sb s F0 s117 [Ck.ol (Ow.sl OI 3) 24 A60 c60 x60, Ck.emp, Ck.emp, Ck.ol (Ow.sl OI 3) 24 A117 1 [u115]] := hH'
  clear hH' hG
  try dsimp only [putL, setL, evL, getL]
  replace H := headE H
  obtain ⟨x118, hx118, H⟩ := H
  refine HL_cons rfl ?_
  refine o_appD (K := (Kd.sl KI)) (n := 5864062014805) (A := A60) (c := c60) (xs := x60) (ys := [u115]) (B := A117) (c2 := 1) hH 0 3 (by decide) rfl rfl rfl rfl rfl Try.underlying105 tI24 rfl (by decide) (by decide) (by decide) hx118 ?_
  intro A118 c118 s118 hH'
  replace hH : Hp sb s F0 s118 [Ck.ol (Ow.sl OI 3) 24 A118 c118 x118, Ck.emp, Ck.emp, Ck.emp] := hH'
  clear hH'
  try dsimp only [putL, setL, evL, getL]
  refine HL_cons rfl ?_
  refine o_assign ?_
  try dsimp only [putL, setL, evL, getL]
  refine HL_nil ?_
  refine hK113 _ _ ?_
  refine HT_ret ?_
  exact hQr _ _ [.slice A118 x118.length c118] ⟨rfl, trivial⟩ (retH (fun r => spec_l14Between.post sb s F0 r _ _) (show some _ = some r from H) ⟨A118, c118, rfl, hH.sel [0] (by decide)⟩)
end Go.Proofs.Ytkieinlcpkpcjaa
