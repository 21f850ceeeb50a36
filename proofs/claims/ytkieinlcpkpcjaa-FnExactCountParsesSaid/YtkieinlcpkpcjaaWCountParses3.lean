/- The functions that the law reaches, as plain functions, each with its contract: printed by a program of the prover's. No conditions: lemmas. -/
import Derived.Test.YtkieinlcpkpcjaaWCountParses2
set_option linter.unusedVariables false
set_option linter.unusedSimpArgs false
namespace Go.Proofs.Ytkieinlcpkpcjaa
open Go Go.Proofs.GL
def impl_counts.l3 (p1 : List (Int)) (u3 : (List (List (Int))) × Bool) (x9864 : List (List (List (Int)))) (x9865 : Int) (u13565 : (Int) × (List (Int))) (x13573 : List (List (List (Int)))) (x14385 : Int) : Nat → (List (List (Int))) → Int → Option (List (List (Int)))
 | 0, _, _ => none
 | kf + 1, x14757, x14758 => if (decide (x14758 ≤ (p1.length : Int))) = true then ((rd? u3.1 x9865).bind fun u14779 => (rd? x14757 x14385).bind fun u14781 => (st? x13573 (x9864.length : Int) x14757).bind fun x14784 => (impl_countOf.f x14784 u14779 x9865 u13565.1 u13565.2 p1 x14385 x14758).bind fun u14783 => (rd? u14781 x14758).bind fun u14785 => (st? u14781 x14758 (min u14783 1000000)).bind fun x14786 => (st? x14757 x14385 x14786).bind fun x14787 => impl_counts.l3 p1 u3 x9864 x9865 u13565 x13573 x14385 kf x14787 (IntKind.i64.wrap (x14758 + 1))) else (some x14757)
def impl_counts.l2 (p1 : List (Int)) (u3 : (List (List (Int))) × Bool) (x9864 : List (List (List (Int)))) (x9865 : Int) (u13565 : (Int) × (List (Int))) (x13573 : List (List (List (Int)))) : Nat → (List (List (Int))) → Int → Option (List (List (List (Int))))
 | 0, _, _ => none
 | kf + 1, x14384, x14385 => if (decide (x14385 ≥ 0)) = true then (((mk? 17592186044416 0 (IntKind.i64.wrap ((p1.length : Int) + 1))).bind fun x14693 => (rd? x14384 x14385).bind fun u14694 => (st? x14384 x14385 x14693).bind fun x14696 => (impl_counts.l3 p1 u3 x9864 x9865 u13565 x13573 x14385 ((((p1.length : Int)) - (x14385)).toNat + 2) x14696 x14385).bind fun (o : (List (List (Int)))) => match o with | x14743 => (some x14743)).bind fun (o : (List (List (Int)))) => match o with | x14691 => (impl_counts.l2 p1 u3 x9864 x9865 u13565 x13573 kf x14691 (IntKind.i64.wrap (x14385 - 1)))) else ((st? x13573 (x9864.length : Int) x14384).bind fun x14790 => some x14790)
def impl_counts.l1 (p0 : List ((Int) × (List (Int)))) (p1 : List (Int)) (u3 : (List (List (Int))) × Bool) : Nat → (List (List (List (Int)))) → Int → Option (List (List (List (Int))))
 | 0, _, _ => none
 | kf + 1, x9864, x9865 => if (decide (x9865 < (p0.length : Int))) = true then (((rd? p0 x9865).bind fun u13565 => (mk? 5864062014805 [] (IntKind.i64.wrap ((p1.length : Int) + 1))).bind fun x13570 => (app? 5864062014805 x9864 [x13570]).bind fun x13573 => (impl_counts.l2 p1 u3 x9864 x9865 u13565 x13573 ((((p1.length : Int)) - (0)).toNat + 2) x13570 (p1.length : Int)).bind fun (o : (List (List (List (Int))))) => match o with | x14183 => (some x14183)).bind fun (o : (List (List (List (Int))))) => match o with | x13563 => (impl_counts.l1 p0 p1 u3 kf x13563 (IntKind.i64.wrap (x9865 + 1)))) else (some x9864)
def impl_counts.f (p0 : List ((Int) × (List (Int)))) (p1 : List (Int)) : Option (List (List (List (Int)))) := (impl_parts.f p0).bind fun u3 => (impl_counts.l1 p0 p1 u3 ((((p0.length : Int)) - (0)).toNat + 2) ([] : List (List (List (Int)))) 0).bind fun (o : (List (List (List (Int))))) => match o with | x7401 => (some x7401)
def impl_counts.post (sb s : St) (F0 : Fp) (r : (List (List (List (Int))))) : Value → St → Prop := fun v s' => ∃ (A0 : Option Addr) (c0 : Nat), v = .slice A0 r.length c0 ∧ Hp sb s F0 s' [Ck.ol (Ow.sl (Ow.sl OI 3) 24) 105 A0 c0 r]
set_option maxRecDepth 100000 in
set_option maxHeartbeats 4000000 in
theorem impl_counts.ok (sb s : St) (F0 : Fp) (A0p : Option Addr) (c0p : Nat) (p0 : List ((Int) × (List (Int)))) (A1p : Option Addr) (c1p : Nat) (p1 : List (Int)) (HRp0 : Rd KS139 sb A0p c0p p0) (HRp1 : Rd KI sb A1p c1p p1) (hH : Hp sb s F0 s []) (r : (List (List (List (Int))))) (H : impl_counts.f p0 p1 = some r) : GCall Try.prog 153 #[.slice A0p p0.length c0p, .slice A1p p1.length c1p] s (impl_counts.post sb s F0 r) := by
 refine GCall_ofk [.tmp 4] [.slice A0p p0.length c0p, .slice A1p p1.length c1p, undef, undef, undef, undef, undef, undef, undef, undef, undef, undef, undef, undef, undef, undef, undef, undef, undef, undef, undef, undef, undef, undef, undef, undef, undef, undef, undef, undef, undef, undef, undef, undef, undef, undef, undef, undef, undef, undef, undef, undef, undef, undef, undef, undef, undef, undef, undef, undef, undef, undef, undef, undef, undef, undef, undef, undef, undef, undef, undef, undef, undef, undef, undef, undef, undef, undef, undef, undef, undef, undef, undef, undef] Try.func153 rfl rfl rfl ?_
 intro w Q hQr hQn hQp
 replace H := topE H
 unfold impl_counts.f at H
 refine HT_seq_k ?_
 intro K1 hK1
 refine HT_region ?_
 refine HL_cons rfl ?_
 refine o_assign ?_
 try dsimp only [putL, setL, evL, getL]
 refine HL_nil ?_
 refine hK1 _ _ ?_
 refine HT_seq_k ?_
 intro K2 hK2
 refine HT_region ?_
 refine HL_cons rfl ?_
 refine o_move ?_
 try dsimp only [putL, setL, evL, getL]
 replace H := headE H
 obtain ⟨u3, hu3, H⟩ := H
 refine HL_cons rfl ?_
 refine o_call (args := #[.slice A0p p0.length c0p]) Try.func155 rfl rfl rfl (impl_parts.ok sb s no A0p c0p p0 HRp0 (Hp.own hH.bs) _ hu3) ?_
 rintro _ s3 ⟨A4, c4, rfl, hD⟩
 replace hH := hH.back0 hD (Up.refl _ _ _)
 clear hD
 dsimp only [addC, setC, rmC, selC, getC] at hH
 try dsimp only [putL, setL, evL, getL]
 refine HL_cons rfl ?_
 refine o_move ?_
 try dsimp only [putL, setL, evL, getL]
 refine HL_cons rfl ?_
 refine o_extract rfl rfl ?_
 try dsimp only [putL, setL, evL, getL]
 refine HL_cons rfl ?_
 refine o_extract rfl rfl ?_
 try dsimp only [putL, setL, evL, getL]
 refine HL_cons rfl ?_
 refine o_assign ?_
 try dsimp only [putL, setL, evL, getL]
 refine HL_cons rfl ?_
 refine o_assign ?_
 try dsimp only [putL, setL, evL, getL]
 refine HL_nil ?_
 refine hK2 _ _ ?_
 refine HT_seq_k ?_
 intro K5 hK5
 refine HT_region ?_
 refine HL_cons rfl ?_
 refine o_lit0H (α := List (List (Int))) (K := (Kd.sl (Kd.sl KI))) (O := (Ow.sl (Ow.sl OI 3) 24)) hH Try.underlying156 tI105 ?_
 intro A6 s6 hH' hG
 replace hH : Hp sb s F0 s6 [Ck.ol (Ow.sl OI 3) 24 A4 c4 u3.1, Ck.ol (Ow.sl (Ow.sl OI 3) 24) 105 A6 0 ([] : List (List (List (Int))))] := hH'
 clear hH' hG
 try dsimp only [putL, setL, evL, getL]
 refine HL_cons rfl ?_
 refine o_assign ?_
 try dsimp only [putL, setL, evL, getL]
 refine HL_nil ?_
 refine hK5 _ _ ?_
 refine HT_seq_k ?_
 intro K7 hK7
 refine HT_seq_k ?_
 intro K8 hK8
 refine HT_region ?_
 refine HL_cons rfl ?_
 refine o_move ?_
 try dsimp only [putL, setL, evL, getL]
 refine HL_cons rfl ?_
 refine o_len rfl Try.underlying57 ?_
 try dsimp only [putL, setL, evL, getL]
 refine HL_cons rfl ?_
 refine o_move ?_
 try dsimp only [putL, setL, evL, getL]
 refine HL_nil ?_
 refine hK8 _ _ ?_
 refine joinH H fun G9 hG9 H => ?_
 refine HT_toK (fun l' s' => ∃ (x7401 : List (List (List (Int)))) (A7401 : Option Addr) (c7401 : Nat), G9 x7401 = some r ∧ l' = [.slice A0p p0.length c0p, .slice A1p p1.length c1p, undef, undef, .slice none 0 0, .slice A4 u3.1.length c4, .bool u3.2, .slice A7401 x7401.length c7401, getL l' 8, getL l' 9, getL l' 10, getL l' 11, getL l' 12, .tuple #[.slice A4 u3.1.length c4, .bool u3.2], .slice A0p p0.length c0p, .tuple #[.slice A4 u3.1.length c4, .bool u3.2], .slice A4 u3.1.length c4, .bool u3.2, .slice A6 ([] : List (List (List (Int)))).length 0, .slice A0p p0.length c0p, .int .i64 (p0.length : Int), getL l' 21, getL l' 22, getL l' 23, getL l' 24, getL l' 25, getL l' 26, getL l' 27, getL l' 28, getL l' 29, getL l' 30, getL l' 31, getL l' 32, getL l' 33, getL l' 34, getL l' 35, getL l' 36, getL l' 37, getL l' 38, getL l' 39, getL l' 40, getL l' 41, getL l' 42, getL l' 43, getL l' 44, getL l' 45, getL l' 46, getL l' 47, getL l' 48, getL l' 49, getL l' 50, getL l' 51, getL l' 52, getL l' 53, getL l' 54, getL l' 55, getL l' 56, getL l' 57, getL l' 58, getL l' 59, getL l' 60, getL l' 61, getL l' 62, getL l' 63, getL l' 64, getL l' 65, getL l' 66, getL l' 67, getL l' 68, getL l' 69, getL l' 70, getL l' 71, getL l' 72, undef] ∧ Hp sb s F0 s' [Ck.ol (Ow.sl (Ow.sl OI 3) 24) 105 A7401 c7401 x7401]) ?_ ?_
 ·intro K9 hK9
  refine HT_block ?_
  refine HT_loopK (fun kf l' s' => ∃ (x9864 : List (List (List (Int)))) (A9864 : Option Addr) (c9864 : Nat) (x9865 : Int), (impl_counts.l1 p0 p1 u3 kf x9864 x9865).bind G9 = some r ∧ l' = [.slice A0p p0.length c0p, .slice A1p p1.length c1p, undef, undef, .slice none 0 0, .slice A4 u3.1.length c4, .bool u3.2, .slice A9864 x9864.length c9864, getL l' 8, getL l' 9, getL l' 10, getL l' 11, getL l' 12, .tuple #[.slice A4 u3.1.length c4, .bool u3.2], .slice A0p p0.length c0p, .tuple #[.slice A4 u3.1.length c4, .bool u3.2], .slice A4 u3.1.length c4, .bool u3.2, .slice A6 ([] : List (List (List (Int)))).length 0, .slice A0p p0.length c0p, .int .i64 (p0.length : Int), .int .i64 x9865, getL l' 22, getL l' 23, getL l' 24, getL l' 25, getL l' 26, getL l' 27, getL l' 28, getL l' 29, getL l' 30, getL l' 31, getL l' 32, getL l' 33, getL l' 34, getL l' 35, getL l' 36, getL l' 37, getL l' 38, getL l' 39, getL l' 40, getL l' 41, getL l' 42, getL l' 43, getL l' 44, getL l' 45, getL l' 46, getL l' 47, getL l' 48, getL l' 49, getL l' 50, getL l' 51, getL l' 52, getL l' 53, getL l' 54, getL l' 55, getL l' 56, getL l' 57, getL l' 58, getL l' 59, getL l' 60, getL l' 61, getL l' 62, getL l' 63, getL l' 64, getL l' 65, getL l' 66, getL l' 67, getL l' 68, getL l' 69, getL l' 70, getL l' 71, getL l' 72, undef] ∧ Hp sb s F0 s' [Ck.ol (Ow.sl (Ow.sl OI 3) 24) 105 A9864 c9864 x9864, Ck.ol (Ow.sl OI 3) 24 A4 c4 u3.1]) ((((p0.length : Int)) - (0)).toNat + 2) ⟨([] : List (List (List (Int)))), A6, 0, 0, H, rfl, hH.sel [1, 0] (by decide)⟩ ?_
  rintro kf l' s12330 ⟨x9864, A9864, c9864, x9865, H, hl, hH⟩ K12330 hK12330
  generalize getL l' 8 = j8, getL l' 9 = j9, getL l' 10 = j10, getL l' 11 = j11, getL l' 12 = j12, getL l' 22 = j22, getL l' 23 = j23, getL l' 24 = j24, getL l' 25 = j25, getL l' 26 = j26, getL l' 27 = j27, getL l' 28 = j28, getL l' 29 = j29, getL l' 30 = j30, getL l' 31 = j31, getL l' 32 = j32, getL l' 33 = j33, getL l' 34 = j34, getL l' 35 = j35, getL l' 36 = j36, getL l' 37 = j37, getL l' 38 = j38, getL l' 39 = j39, getL l' 40 = j40, getL l' 41 = j41, getL l' 42 = j42, getL l' 43 = j43, getL l' 44 = j44, getL l' 45 = j45, getL l' 46 = j46, getL l' 47 = j47, getL l' 48 = j48, getL l' 49 = j49, getL l' 50 = j50, getL l' 51 = j51, getL l' 52 = j52, getL l' 53 = j53, getL l' 54 = j54, getL l' 55 = j55, getL l' 56 = j56, getL l' 57 = j57, getL l' 58 = j58, getL l' 59 = j59, getL l' 60 = j60, getL l' 61 = j61, getL l' 62 = j62, getL l' 63 = j63, getL l' 64 = j64, getL l' 65 = j65, getL l' 66 = j66, getL l' 67 = j67, getL l' 68 = j68, getL l' 69 = j69, getL l' 70 = j70, getL l' 71 = j71, getL l' 72 = j72 at hl
  subst hl
  cases kf with
  | zero => simp [impl_counts.l1] at H
  | succ kf =>
   rw [impl_counts.l1] at H
   refine HT_seq_k ?_
   intro K12331 hK12331
   refine HT_region ?_
   refine HL_cons rfl ?_
   refine o_bin rfl rfl rfl ?_
   try dsimp only [putL, setL, evL, getL]
   refine HL_nil ?_
   refine hK12331 _ _ ?_
   refine HT_seq_k ?_
   intro K12332 hK12332
   rcases Bool.eq_false_or_eq_true (decide (x9865 < (p0.length : Int))) with hb12333 | hb12333
   ·replace H := iteT hb12333 H
    refine HT_true (congrArg Value.bool hb12333) ?_
    refine HT_skip ?_
    refine hK12332 _ _ ?_
    refine joinH H fun G12334 hG12334 H => ?_
    refine HT_joinK (fun l' s' => ∃ (x13563 : List (List (List (Int)))) (A13563 : Option Addr) (c13563 : Nat), G12334 x13563 = some r ∧ l' = [.slice A0p p0.length c0p, .slice A1p p1.length c1p, undef, undef, .slice none 0 0, .slice A4 u3.1.length c4, .bool u3.2, .slice A13563 x13563.length c13563, getL l' 8, getL l' 9, getL l' 10, getL l' 11, getL l' 12, .tuple #[.slice A4 u3.1.length c4, .bool u3.2], .slice A0p p0.length c0p, .tuple #[.slice A4 u3.1.length c4, .bool u3.2], .slice A4 u3.1.length c4, .bool u3.2, .slice A6 ([] : List (List (List (Int)))).length 0, .slice A0p p0.length c0p, .int .i64 (p0.length : Int), .int .i64 x9865, .bool (decide (x9865 < (p0.length : Int))), getL l' 23, getL l' 24, getL l' 25, getL l' 26, getL l' 27, getL l' 28, getL l' 29, getL l' 30, getL l' 31, getL l' 32, getL l' 33, getL l' 34, getL l' 35, getL l' 36, getL l' 37, getL l' 38, getL l' 39, getL l' 40, getL l' 41, getL l' 42, getL l' 43, getL l' 44, getL l' 45, getL l' 46, getL l' 47, getL l' 48, getL l' 49, getL l' 50, getL l' 51, getL l' 52, getL l' 53, getL l' 54, getL l' 55, getL l' 56, getL l' 57, getL l' 58, getL l' 59, getL l' 60, getL l' 61, getL l' 62, getL l' 63, getL l' 64, getL l' 65, getL l' 66, getL l' 67, getL l' 68, getL l' 69, getL l' 70, getL l' 71, j72, undef] ∧ Hp sb s F0 s' [Ck.ol (Ow.sl (Ow.sl OI 3) 24) 105 A13563 c13563 x13563, Ck.ol (Ow.sl OI 3) 24 A4 c4 u3.1]) ?_ ?_
    ·intro K12334 hK12334
     refine HT_block ?_
     refine HT_seq_k ?_
     intro K13564 hK13564
     refine HT_region ?_
     refine HL_cons rfl ?_
     refine o_move ?_
     try dsimp only [putL, setL, evL, getL]
     replace H := headE H
     obtain ⟨u13565, hu13565, H⟩ := H
     obtain ⟨b13565, o13565, cs13565, hr13565, hh13565, hel13565⟩ := Rd.elb HRp0 hu13565
     obtain ⟨_, _, rfl, rfl, ⟨A13566, c13566, rfl, D13566⟩⟩ := hr13565
     refine HL_cons rfl ?_
     refine hel13565 s12330 rfl rfl Try.underlying57 tI139 ?_
     try dsimp only [putL, setL, evL, getL]
     refine HL_cons rfl ?_
     refine o_loads' [.int .i64 u13565.1, .slice A13566 u13565.2.length c13566] rfl Try.underlying139 rfl tI139 rfl (fun j v hj => (hh13565 hH.bs.mono) j v hj) ?_
     try dsimp only [putL, setL, evL, getL]
     refine HL_cons rfl ?_
     refine o_allocH hH tI139 ?_
     intro b13567 s13567 hH' hG
     replace hH : Hp sb s F0 s13567 [Ck.ol (Ow.sl (Ow.sl OI 3) 24) 105 A9864 c9864 x9864, Ck.ol (Ow.sl OI 3) 24 A4 c4 u3.1, Ck.ov b13567 [.int .i64 0, .slice none 0 0] 139] := hH'
     clear hH' hG
     try dsimp only [putL, setL, evL, getL]
     refine HL_cons rfl ?_
     refine o_assign ?_
     try dsimp only [putL, setL, evL, getL]
     refine HL_cons rfl ?_
     refine o_stvH (vs := [.int .i64 u13565.1, .slice A13566 u13565.2.length c13566]) (us' := [.int .i64 u13565.1, .slice A13566 u13565.2.length c13566]) hH 2 rfl rfl rfl rfl rfl tI139 rfl (List.cons_ne_nil _ _) rfl rfl rfl ?_
     intro s13568 hH'
     replace hH : Hp sb s F0 s13568 [Ck.ol (Ow.sl (Ow.sl OI 3) 24) 105 A9864 c9864 x9864, Ck.ol (Ow.sl OI 3) 24 A4 c4 u3.1, Ck.ov b13567 [.int .i64 u13565.1, .slice A13566 u13565.2.length c13566] 139] := hH'
     clear hH'
     try dsimp only [putL, setL, evL, getL]
     refine HL_nil ?_
     refine hK13564 _ _ ?_
     refine HT_seq_k ?_
     intro K13569 hK13569
     refine HT_region ?_
     refine HL_cons rfl ?_
     refine o_move ?_
     try dsimp only [putL, setL, evL, getL]
     refine HL_cons rfl ?_
     refine o_len rfl Try.underlying24 ?_
     try dsimp only [putL, setL, evL, getL]
     refine HL_cons rfl ?_
     refine o_bin rfl rfl rfl ?_
     try dsimp only [putL, setL, evL, getL]
     replace H := headE H
     obtain ⟨x13570, hx13570, H⟩ := H
     refine HL_cons rfl ?_
     refine o_makeH (K := (Kd.sl KI)) (O := (Ow.sl OI 3)) (x0 := []) hH rfl Try.underlying105 tI24 rfl (by decide) (by decide) (by decide) Own0.nil hx13570 ?_
     intro A13570 c13570 s13570 hH' hG
     replace hH : Hp sb s F0 s13570 [Ck.ol (Ow.sl (Ow.sl OI 3) 24) 105 A9864 c9864 x9864, Ck.ol (Ow.sl OI 3) 24 A4 c4 u3.1, Ck.ov b13567 [.int .i64 u13565.1, .slice A13566 u13565.2.length c13566] 139, Ck.ol (Ow.sl OI 3) 24 A13570 c13570 x13570] := hH'
     clear hH' hG
     try dsimp only [putL, setL, evL, getL]
     refine HL_cons rfl ?_
     refine o_assign ?_
     try dsimp only [putL, setL, evL, getL]
     refine HL_nil ?_
     refine hK13569 _ _ ?_
     refine HT_seq_k ?_
     intro K13571 hK13571
     refine HT_region ?_
     refine HL_cons rfl ?_
     refine o_move ?_
     try dsimp only [putL, setL, evL, getL]
     refine HL_cons rfl ?_
     refine o_move ?_
     try dsimp only [putL, setL, evL, getL]
     refine HL_cons rfl ?_
     refine o_litF (K := Kd.raw 1) (O := OR 1) (ca := #[.slice A13570 x13570.length c13570]) [[.slice A13570 x13570.length c13570]] [[.slice A13570 x13570.length c13570]] hH Try.underlying156 tI105 rfl (by decide) rfl rfl (by kernel_rfl) rfl ⟨rfl, ⟨rfl, rfl, by simp [isCell]⟩, trivial⟩ ?_
     intro A13572 s13572 hH' hG
     replace hH : Hp sb s F0 s13572 [Ck.ol (Ow.sl (Ow.sl OI 3) 24) 105 A9864 c9864 x9864, Ck.ol (Ow.sl OI 3) 24 A4 c4 u3.1, Ck.ov b13567 [.int .i64 u13565.1, .slice A13566 u13565.2.length c13566] 139, Ck.ol (Ow.sl OI 3) 24 A13570 c13570 x13570, Ck.ol (OR 1) 105 A13572 1 [[.slice A13570 x13570.length c13570]]] := hH'
     clear hH' hG
     try dsimp only [putL, setL, evL, getL]
     replace H := headE H
     obtain ⟨x13573, hx13573, H⟩ := H
     refine HL_cons rfl ?_
     refine o_appO (K := (Kd.sl (Kd.sl KI))) (O := (Ow.sl (Ow.sl OI 3) 24)) (n := 5864062014805) (A := A9864) (c := c9864) (xs := x9864) (u := x13570) (vs := [.slice A13570 x13570.length c13570]) (B := A13572) (c2 := 1) hH 0 4 (by decide) rfl rfl rfl rfl rfl Try.underlying156 tI105 rfl (by decide) (by decide) (by decide) hx13573 ?_
     intro A13573 c13573 s13573 hH'
     replace hH : Hp sb s F0 s13573 [Ck.oh (Ow.sl (Ow.sl OI 3) 24) 105 A13573 c13573 x13573 (Int.toNat (x9864.length : Int)) [.slice A13570 x13570.length c13570], Ck.ol (Ow.sl OI 3) 24 A4 c4 u3.1, Ck.ov b13567 [.int .i64 u13565.1, .slice A13566 u13565.2.length c13566] 139, Ck.ol (Ow.sl OI 3) 24 A13570 c13570 x13570, Ck.emp] := hH'
     clear hH'
     have hlu13573 := app?_last hx13573
     try dsimp only [putL, setL, evL, getL]
     refine HL_cons rfl ?_
     refine o_assign ?_
     try dsimp only [putL, setL, evL, getL]
     refine HL_nil ?_
     refine hK13571 _ _ ?_
     refine HT_seq_k ?_
     intro K13574 hK13574
     refine HT_region ?_
     refine HL_cons rfl ?_
     refine o_move ?_
     try dsimp only [putL, setL, evL, getL]
     refine HL_cons rfl ?_
     refine o_len rfl Try.underlying24 ?_
     try dsimp only [putL, setL, evL, getL]
     refine HL_cons rfl ?_
     refine o_assign ?_
     try dsimp only [putL, setL, evL, getL]
     refine HL_nil ?_
     refine hK13574 _ _ ?_
     refine joinH H fun G13575 hG13575 H => ?_
     refine HT_toK (fun l' s' => ∃ (x14183 : List (List (List (Int)))) (A14183 : Option Addr) (c14183 : Nat), G13575 x14183 = some r ∧ l' = [.slice A0p p0.length c0p, .slice A1p p1.length c1p, undef, undef, .slice none 0 0, .slice A4 u3.1.length c4, .bool u3.2, .slice A14183 x14183.length c14183, .int .i64 x9865, .pointer (some ⟨b13567, 0, none⟩), .slice A13570 x13570.length c13570, getL l' 11, getL l' 12, .tuple #[.slice A4 u3.1.length c4, .bool u3.2], .slice A0p p0.length c0p, .tuple #[.slice A4 u3.1.length c4, .bool u3.2], .slice A4 u3.1.length c4, .bool u3.2, .slice A6 ([] : List (List (List (Int)))).length 0, .slice A0p p0.length c0p, .int .i64 (p0.length : Int), .int .i64 x9865, .bool (decide (x9865 < (p0.length : Int))), .int .i64 x9865, .pointer (some ⟨b13565, o13565, none⟩), .agg #[.int .i64 u13565.1, .slice A13566 u13565.2.length c13566], .slice A1p p1.length c1p, .int .i64 (p1.length : Int), .int .i64 (IntKind.i64.wrap ((p1.length : Int) + 1)), .slice A13570 x13570.length c13570, .slice A9864 x9864.length c9864, .slice A13570 x13570.length c13570, .slice A13572 [x13570].length 1, .slice A13573 x13573.length c13573, .slice A1p p1.length c1p, .int .i64 (p1.length : Int), getL l' 36, getL l' 37, getL l' 38, getL l' 39, getL l' 40, getL l' 41, getL l' 42, getL l' 43, getL l' 44, getL l' 45, getL l' 46, getL l' 47, getL l' 48, getL l' 49, getL l' 50, getL l' 51, getL l' 52, getL l' 53, getL l' 54, getL l' 55, getL l' 56, getL l' 57, getL l' 58, getL l' 59, getL l' 60, getL l' 61, getL l' 62, getL l' 63, getL l' 64, getL l' 65, getL l' 66, getL l' 67, getL l' 68, getL l' 69, getL l' 70, getL l' 71, j72, undef] ∧ Hp sb s F0 s' [Ck.ol (Ow.sl (Ow.sl OI 3) 24) 105 A14183 c14183 x14183, Ck.ol (Ow.sl OI 3) 24 A4 c4 u3.1]) ?_ ?_
     ·intro K13575 hK13575
      refine HT_block ?_
      refine HT_loopK (fun kf l' s' => ∃ (x14384 : List (List (Int))) (x14385 : Int), (impl_counts.l2 p1 u3 x9864 x9865 u13565 x13573 kf x14384 x14385).bind G13575 = some r ∧ l' = [.slice A0p p0.length c0p, .slice A1p p1.length c1p, undef, undef, .slice none 0 0, .slice A4 u3.1.length c4, .bool u3.2, .slice A13573 x13573.length c13573, .int .i64 x9865, .pointer (some ⟨b13567, 0, none⟩), .slice A13570 x13570.length c13570, .int .i64 x14385, getL l' 12, .tuple #[.slice A4 u3.1.length c4, .bool u3.2], .slice A0p p0.length c0p, .tuple #[.slice A4 u3.1.length c4, .bool u3.2], .slice A4 u3.1.length c4, .bool u3.2, .slice A6 ([] : List (List (List (Int)))).length 0, .slice A0p p0.length c0p, .int .i64 (p0.length : Int), .int .i64 x9865, .bool (decide (x9865 < (p0.length : Int))), .int .i64 x9865, .pointer (some ⟨b13565, o13565, none⟩), .agg #[.int .i64 u13565.1, .slice A13566 u13565.2.length c13566], .slice A1p p1.length c1p, .int .i64 (p1.length : Int), .int .i64 (IntKind.i64.wrap ((p1.length : Int) + 1)), .slice A13570 x13570.length c13570, .slice A9864 x9864.length c9864, .slice A13570 x13570.length c13570, .slice A13572 [x13570].length 1, .slice A13573 x13573.length c13573, .slice A1p p1.length c1p, .int .i64 (p1.length : Int), getL l' 36, getL l' 37, getL l' 38, getL l' 39, getL l' 40, getL l' 41, getL l' 42, getL l' 43, getL l' 44, getL l' 45, getL l' 46, getL l' 47, getL l' 48, getL l' 49, getL l' 50, getL l' 51, getL l' 52, getL l' 53, getL l' 54, getL l' 55, getL l' 56, getL l' 57, getL l' 58, getL l' 59, getL l' 60, getL l' 61, getL l' 62, getL l' 63, getL l' 64, getL l' 65, getL l' 66, getL l' 67, getL l' 68, getL l' 69, getL l' 70, getL l' 71, j72, undef] ∧ Hp sb s F0 s' [Ck.ol (Ow.sl OI 3) 24 A4 c4 u3.1, Ck.ol (Ow.sl OI 3) 24 A13570 c13570 x14384, Ck.oh (Ow.sl (Ow.sl OI 3) 24) 105 A13573 c13573 x13573 (Int.toNat (x9864.length : Int)) [.slice A13570 x13570.length c13570], Ck.ov b13567 [.int .i64 u13565.1, .slice A13566 u13565.2.length c13566] 139] ∧ x14384.length = x13570.length) ((((p1.length : Int)) - (0)).toNat + 2) ⟨x13570, (p1.length : Int), H, rfl, hH.sel [1, 3, 0, 2] (by decide), rfl⟩ ?_
      rintro kf l' s14589 ⟨x14384, x14385, H, hl, hH, hl14384⟩ K14589 hK14589
      generalize getL l' 12 = j12, getL l' 36 = j36, getL l' 37 = j37, getL l' 38 = j38, getL l' 39 = j39, getL l' 40 = j40, getL l' 41 = j41, getL l' 42 = j42, getL l' 43 = j43, getL l' 44 = j44, getL l' 45 = j45, getL l' 46 = j46, getL l' 47 = j47, getL l' 48 = j48, getL l' 49 = j49, getL l' 50 = j50, getL l' 51 = j51, getL l' 52 = j52, getL l' 53 = j53, getL l' 54 = j54, getL l' 55 = j55, getL l' 56 = j56, getL l' 57 = j57, getL l' 58 = j58, getL l' 59 = j59, getL l' 60 = j60, getL l' 61 = j61, getL l' 62 = j62, getL l' 63 = j63, getL l' 64 = j64, getL l' 65 = j65, getL l' 66 = j66, getL l' 67 = j67, getL l' 68 = j68, getL l' 69 = j69, getL l' 70 = j70, getL l' 71 = j71 at hl
      subst hl
      cases kf with
      | zero => simp [impl_counts.l2] at H
      | succ kf =>
       rw [impl_counts.l2] at H
       refine HT_seq_k ?_
       intro K14590 hK14590
       refine HT_seq_k ?_
       intro K14591 hK14591
       refine HT_region ?_
       refine HL_cons rfl ?_
       refine o_move ?_
       try dsimp only [putL, setL, evL, getL]
       refine HL_cons rfl ?_
       refine o_bin rfl rfl rfl ?_
       try dsimp only [putL, setL, evL, getL]
       refine HL_nil ?_
       refine hK14591 _ _ ?_
       rcases Bool.eq_false_or_eq_true (decide (x14385 ≥ 0)) with hb14592 | hb14592
       ·replace H := iteT hb14592 H
        refine HT_true (congrArg Value.bool hb14592) ?_
        refine HT_skip ?_
        refine hK14590 _ _ ?_
        refine joinH H fun G14593 hG14593 H => ?_
        refine HT_joinK (fun l' s' => ∃ (x14691 : List (List (Int))), G14593 x14691 = some r ∧ l' = [.slice A0p p0.length c0p, .slice A1p p1.length c1p, undef, undef, .slice none 0 0, .slice A4 u3.1.length c4, .bool u3.2, .slice A13573 x13573.length c13573, .int .i64 x9865, .pointer (some ⟨b13567, 0, none⟩), .slice A13570 x13570.length c13570, .int .i64 x14385, getL l' 12, .tuple #[.slice A4 u3.1.length c4, .bool u3.2], .slice A0p p0.length c0p, .tuple #[.slice A4 u3.1.length c4, .bool u3.2], .slice A4 u3.1.length c4, .bool u3.2, .slice A6 ([] : List (List (List (Int)))).length 0, .slice A0p p0.length c0p, .int .i64 (p0.length : Int), .int .i64 x9865, .bool (decide (x9865 < (p0.length : Int))), .int .i64 x9865, .pointer (some ⟨b13565, o13565, none⟩), .agg #[.int .i64 u13565.1, .slice A13566 u13565.2.length c13566], .slice A1p p1.length c1p, .int .i64 (p1.length : Int), .int .i64 (IntKind.i64.wrap ((p1.length : Int) + 1)), .slice A13570 x13570.length c13570, .slice A9864 x9864.length c9864, .slice A13570 x13570.length c13570, .slice A13572 [x13570].length 1, .slice A13573 x13573.length c13573, .slice A1p p1.length c1p, .int .i64 (p1.length : Int), .int .i64 x14385, .bool (decide (x14385 ≥ 0)), j38, j39, getL l' 40, getL l' 41, getL l' 42, getL l' 43, getL l' 44, getL l' 45, getL l' 46, getL l' 47, getL l' 48, getL l' 49, getL l' 50, getL l' 51, getL l' 52, getL l' 53, getL l' 54, getL l' 55, getL l' 56, getL l' 57, getL l' 58, getL l' 59, getL l' 60, getL l' 61, getL l' 62, getL l' 63, getL l' 64, getL l' 65, getL l' 66, getL l' 67, getL l' 68, getL l' 69, getL l' 70, getL l' 71, j72, undef] ∧ Hp sb s F0 s' [Ck.ol (Ow.sl OI 3) 24 A4 c4 u3.1, Ck.ol (Ow.sl OI 3) 24 A13570 c13570 x14691, Ck.oh (Ow.sl (Ow.sl OI 3) 24) 105 A13573 c13573 x13573 (Int.toNat (x9864.length : Int)) [.slice A13570 x13570.length c13570], Ck.ov b13567 [.int .i64 u13565.1, .slice A13566 u13565.2.length c13566] 139] ∧ x14691.length = x13570.length) ?_ ?_
        ·intro K14593 hK14593
         refine HT_block ?_
         refine HT_seq_k ?_
         intro K14692 hK14692
         refine HT_region ?_
         refine HL_cons rfl ?_
         refine o_move ?_
         try dsimp only [putL, setL, evL, getL]
         refine HL_cons rfl ?_
         refine o_move ?_
         try dsimp only [putL, setL, evL, getL]
         refine HL_cons rfl ?_
         refine o_move ?_
         try dsimp only [putL, setL, evL, getL]
         refine HL_cons rfl ?_
         refine o_len rfl Try.underlying24 ?_
         try dsimp only [putL, setL, evL, getL]
         refine HL_cons rfl ?_
         refine o_bin rfl rfl rfl ?_
         try dsimp only [putL, setL, evL, getL]
         replace H := headE H
         obtain ⟨x14693, hx14693, H⟩ := H
         refine HL_cons rfl ?_
         refine o_makeH (K := KI) (O := OI) (x0 := 0) hH rfl Try.underlying24 tI3 rfl (by decide) (by decide) (by decide) (Own0.fl fun _ => rfl) hx14693 ?_
         intro A14693 c14693 s14693 hH' hG
         replace hH : Hp sb s F0 s14693 [Ck.ol (Ow.sl OI 3) 24 A4 c4 u3.1, Ck.ol (Ow.sl OI 3) 24 A13570 c13570 x14384, Ck.oh (Ow.sl (Ow.sl OI 3) 24) 105 A13573 c13573 x13573 (Int.toNat (x9864.length : Int)) [.slice A13570 x13570.length c13570], Ck.ov b13567 [.int .i64 u13565.1, .slice A13566 u13565.2.length c13566] 139, Ck.ol OI 3 A14693 c14693 x14693] := hH'
         clear hH' hG
         try dsimp only [putL, setL, evL, getL]
         replace H := headE H
         obtain ⟨u14694, hu14694, H⟩ := H
         obtain ⟨b14694, o14694, cs14694, hA14694, hr14694, hh14694, hel14694⟩ := hH.elo 1 rfl hu14694
         obtain ⟨A14695, c14695, rfl, D14695⟩ := hr14694
         refine HL_cons rfl ?_
         refine hel14694 s14693 (sliceLen hl14384) rfl Try.underlying105 tI24 ?_
         try dsimp only [putL, setL, evL, getL]
         replace hH := hH.conv [4] (by decide) (d := Ck.el (Ow.sl OI 3) [.slice A14693 x14693.length c14693] x14693) Ent.sl
         dsimp only [addC, setC, rmC, selC, getC] at hH
         replace H := headE H
         obtain ⟨x14696, hx14696, H⟩ := H
         refine HL_cons rfl ?_
         refine o_setD (u := x14693) hH 1 5 (by decide) rfl rfl rfl rfl rfl rfl tI24 hA14694 hx14696 ?_
         intro s14696 hH'
         have hl14696 := (st?_len hx14696).trans hl14384
         replace hH : Hp sb s F0 s14696 [Ck.ol (Ow.sl OI 3) 24 A4 c4 u3.1, Ck.ol (Ow.sl OI 3) 24 A13570 c13570 x14696, Ck.oh (Ow.sl (Ow.sl OI 3) 24) 105 A13573 c13573 x13573 (Int.toNat (x9864.length : Int)) [.slice A13570 x13570.length c13570], Ck.ov b13567 [.int .i64 u13565.1, .slice A13566 u13565.2.length c13566] 139, Ck.emp, Ck.emp] := hH'
         clear hH'
         try dsimp only [putL, setL, evL, getL]
         refine HL_nil ?_
         refine hK14692 _ _ ?_
         refine HT_seq_k ?_
         intro K14697 hK14697
         refine HT_region ?_
         refine HL_cons rfl ?_
         refine o_move ?_
         try dsimp only [putL, setL, evL, getL]
         refine HL_cons rfl ?_
         refine o_assign ?_
         try dsimp only [putL, setL, evL, getL]
         refine HL_nil ?_
         refine hK14697 _ _ ?_
         refine joinH H fun G14698 hG14698 H => ?_
         refine HT_toK (fun l' s' => ∃ (x14743 : List (List (Int))), G14698 x14743 = some r ∧ l' = [.slice A0p p0.length c0p, .slice A1p p1.length c1p, undef, undef, .slice none 0 0, .slice A4 u3.1.length c4, .bool u3.2, .slice A13573 x13573.length c13573, .int .i64 x9865, .pointer (some ⟨b13567, 0, none⟩), .slice A13570 x13570.length c13570, .int .i64 x14385, getL l' 12, .tuple #[.slice A4 u3.1.length c4, .bool u3.2], .slice A0p p0.length c0p, .tuple #[.slice A4 u3.1.length c4, .bool u3.2], .slice A4 u3.1.length c4, .bool u3.2, .slice A6 ([] : List (List (List (Int)))).length 0, .slice A0p p0.length c0p, .int .i64 (p0.length : Int), .int .i64 x9865, .bool (decide (x9865 < (p0.length : Int))), .int .i64 x9865, .pointer (some ⟨b13565, o13565, none⟩), .agg #[.int .i64 u13565.1, .slice A13566 u13565.2.length c13566], .slice A1p p1.length c1p, .int .i64 (p1.length : Int), .int .i64 (IntKind.i64.wrap ((p1.length : Int) + 1)), .slice A13570 x13570.length c13570, .slice A9864 x9864.length c9864, .slice A13570 x13570.length c13570, .slice A13572 [x13570].length 1, .slice A13573 x13573.length c13573, .slice A1p p1.length c1p, .int .i64 (p1.length : Int), .int .i64 x14385, .bool (decide (x14385 ≥ 0)), j38, j39, .slice A13570 x13570.length c13570, .int .i64 x14385, .slice A1p p1.length c1p, .int .i64 (p1.length : Int), .int .i64 (IntKind.i64.wrap ((p1.length : Int) + 1)), .slice A14693 x14693.length c14693, .pointer (some ⟨b14694, o14694 + Int.toNat x14385 * Kd.sz (Kd.sl KI), none⟩), .int .i64 x14385, getL l' 48, getL l' 49, getL l' 50, getL l' 51, getL l' 52, getL l' 53, getL l' 54, getL l' 55, getL l' 56, getL l' 57, getL l' 58, getL l' 59, getL l' 60, getL l' 61, getL l' 62, getL l' 63, getL l' 64, getL l' 65, getL l' 66, getL l' 67, getL l' 68, getL l' 69, getL l' 70, getL l' 71, j72, undef] ∧ Hp sb s F0 s' [Ck.ol (Ow.sl OI 3) 24 A4 c4 u3.1, Ck.ol (Ow.sl OI 3) 24 A13570 c13570 x14743, Ck.oh (Ow.sl (Ow.sl OI 3) 24) 105 A13573 c13573 x13573 (Int.toNat (x9864.length : Int)) [.slice A13570 x13570.length c13570], Ck.ov b13567 [.int .i64 u13565.1, .slice A13566 u13565.2.length c13566] 139] ∧ x14743.length = x13570.length) ?_ ?_
         ·intro K14698 hK14698
          refine HT_block ?_
          refine HT_loopK (fun kf l' s' => ∃ (x14757 : List (List (Int))) (x14758 : Int), (impl_counts.l3 p1 u3 x9864 x9865 u13565 x13573 x14385 kf x14757 x14758).bind G14698 = some r ∧ l' = [.slice A0p p0.length c0p, .slice A1p p1.length c1p, undef, undef, .slice none 0 0, .slice A4 u3.1.length c4, .bool u3.2, .slice A13573 x13573.length c13573, .int .i64 x9865, .pointer (some ⟨b13567, 0, none⟩), .slice A13570 x13570.length c13570, .int .i64 x14385, .int .i64 x14758, .tuple #[.slice A4 u3.1.length c4, .bool u3.2], .slice A0p p0.length c0p, .tuple #[.slice A4 u3.1.length c4, .bool u3.2], .slice A4 u3.1.length c4, .bool u3.2, .slice A6 ([] : List (List (List (Int)))).length 0, .slice A0p p0.length c0p, .int .i64 (p0.length : Int), .int .i64 x9865, .bool (decide (x9865 < (p0.length : Int))), .int .i64 x9865, .pointer (some ⟨b13565, o13565, none⟩), .agg #[.int .i64 u13565.1, .slice A13566 u13565.2.length c13566], .slice A1p p1.length c1p, .int .i64 (p1.length : Int), .int .i64 (IntKind.i64.wrap ((p1.length : Int) + 1)), .slice A13570 x13570.length c13570, .slice A9864 x9864.length c9864, .slice A13570 x13570.length c13570, .slice A13572 [x13570].length 1, .slice A13573 x13573.length c13573, .slice A1p p1.length c1p, .int .i64 (p1.length : Int), .int .i64 x14385, .bool (decide (x14385 ≥ 0)), j38, j39, .slice A13570 x13570.length c13570, .int .i64 x14385, .slice A1p p1.length c1p, .int .i64 (p1.length : Int), .int .i64 (IntKind.i64.wrap ((p1.length : Int) + 1)), .slice A14693 x14693.length c14693, .pointer (some ⟨b14694, o14694 + Int.toNat x14385 * Kd.sz (Kd.sl KI), none⟩), .int .i64 x14385, getL l' 48, getL l' 49, getL l' 50, getL l' 51, getL l' 52, getL l' 53, getL l' 54, getL l' 55, getL l' 56, getL l' 57, getL l' 58, getL l' 59, getL l' 60, getL l' 61, getL l' 62, getL l' 63, getL l' 64, getL l' 65, getL l' 66, getL l' 67, getL l' 68, getL l' 69, getL l' 70, getL l' 71, j72, undef] ∧ Hp sb s F0 s' [Ck.ol (Ow.sl OI 3) 24 A4 c4 u3.1, Ck.ol (Ow.sl OI 3) 24 A13570 c13570 x14757, Ck.oh (Ow.sl (Ow.sl OI 3) 24) 105 A13573 c13573 x13573 (Int.toNat (x9864.length : Int)) [.slice A13570 x13570.length c13570], Ck.ov b13567 [.int .i64 u13565.1, .slice A13566 u13565.2.length c13566] 139] ∧ x14757.length = x13570.length) ((((p1.length : Int)) - (x14385)).toNat + 2) ⟨x14696, x14385, H, rfl, hH.sel [0, 1, 2, 3] (by decide), hl14696⟩ ?_
          rintro kf l' s14774 ⟨x14757, x14758, H, hl, hH, hl14757⟩ K14774 hK14774
          generalize getL l' 48 = j48, getL l' 49 = j49, getL l' 50 = j50, getL l' 51 = j51, getL l' 52 = j52, getL l' 53 = j53, getL l' 54 = j54, getL l' 55 = j55, getL l' 56 = j56, getL l' 57 = j57, getL l' 58 = j58, getL l' 59 = j59, getL l' 60 = j60, getL l' 61 = j61, getL l' 62 = j62, getL l' 63 = j63, getL l' 64 = j64, getL l' 65 = j65, getL l' 66 = j66, getL l' 67 = j67, getL l' 68 = j68, getL l' 69 = j69, getL l' 70 = j70, getL l' 71 = j71 at hl
          subst hl
          cases kf with
          | zero => simp [impl_counts.l3] at H
          | succ kf =>
           rw [impl_counts.l3] at H
           refine HT_seq_k ?_
           intro K14775 hK14775
           refine HT_seq_k ?_
           intro K14776 hK14776
           refine HT_region ?_
           refine HL_cons rfl ?_
           refine o_move ?_
           try dsimp only [putL, setL, evL, getL]
           refine HL_cons rfl ?_
           refine o_move ?_
           try dsimp only [putL, setL, evL, getL]
           refine HL_cons rfl ?_
           refine o_len rfl Try.underlying24 ?_
           try dsimp only [putL, setL, evL, getL]
           refine HL_cons rfl ?_
           refine o_bin rfl rfl rfl ?_
           try dsimp only [putL, setL, evL, getL]
           refine HL_nil ?_
           refine hK14776 _ _ ?_
           rcases Bool.eq_false_or_eq_true (decide (x14758 ≤ (p1.length : Int))) with hb14777 | hb14777
           ·replace H := iteT hb14777 H
            refine HT_true (congrArg Value.bool hb14777) ?_
            refine HT_skip ?_
            refine hK14775 _ _ ?_
            refine HT_seq_k ?_
            intro K14778 hK14778
            refine HT_block ?_
            refine HX_draw hMix ?_
            refine HX_lim (R := fun _ => True) (k := 0) (fun s' => Gro s14774 s') 18 ?_
            have hR := Gro.refl s14774
            have hH0 := hH
            refine HK_readP 5 (v := .slice A13573 x13573.length c13573) rfl (by kernel_rfl) (fun c l s h => hQp c l s h) rfl (fun s' K hK => ?_) rfl rfl (fun _ => hR) ?_
            ·refine o_move ?_
             exact hK
            try dsimp only [putL, setL, evL, getL]
            refine HK_readP 6 (v := .slice A4 u3.1.length c4) rfl (by kernel_rfl) (fun c l s h => hQp c l s h) rfl (fun s' K hK => ?_) rfl rfl (fun _ => hR) ?_
            ·refine o_move ?_
             exact hK
            try dsimp only [putL, setL, evL, getL]
            refine HK_readP 7 (v := .int .i64 x9865) rfl (by kernel_rfl) (fun c l s h => hQp c l s h) rfl (fun s' K hK => ?_) rfl rfl (fun _ => hR) ?_
            ·refine o_move ?_
             exact hK
            try dsimp only [putL, setL, evL, getL]
            replace H := headE H
            obtain ⟨u14779, hu14779, H⟩ := H
            obtain ⟨b14779, o14779, cs14779, hA14779, hr14779, hh14779, hel14779⟩ := hH0.elo 0 rfl hu14779
            obtain ⟨A14780, c14780, rfl, D14780⟩ := hr14779
            refine HK_readP 8 (v := .pointer (some ⟨b14779, o14779 + Int.toNat x9865 * Kd.sz (Kd.sl KI), none⟩)) rfl (by kernel_rfl) (fun c l s h => hQp c l s h) rfl (fun s' K hK => ?_) rfl rfl (fun _ => hR) ?_
            ·refine hel14779 s' rfl rfl Try.underlying105 tI24 ?_
             exact hK
            try dsimp only [putL, setL, evL, getL]
            refine HK_read 9 (v := .slice A14780 u14779.length c14780) rfl (by kernel_rfl) (fun c l s h => hQp c l s h) rfl (fun s' hR' K hK => ?_) rfl rfl hR ?_
            ·refine o_load' rfl Try.underlying24 rfl (has_gro hR' (hh14779 0 _ rfl)) ?_
             exact hK
            try dsimp only [putL, setL, evL, getL]
            refine HK_readP 10 (v := .int .i64 x9865) rfl (by kernel_rfl) (fun c l s h => hQp c l s h) rfl (fun s' K hK => ?_) rfl rfl (fun _ => hR) ?_
            ·refine o_move ?_
             exact hK
            try dsimp only [putL, setL, evL, getL]
            refine HK_read 11 (v := .agg #[.int .i64 u13565.1, .slice A13566 u13565.2.length c13566]) rfl (by kernel_rfl) (fun c l s h => hQp c l s h) rfl (fun s' hR' K hK => ?_) rfl rfl hR ?_
            ·refine o_loads' [.int .i64 u13565.1, .slice A13566 u13565.2.length c13566] rfl Try.underlying139 rfl tI139 rfl (fun j v hj => has_gro hR' ((hH0.partv 3 rfl (0) [.int .i64 u13565.1, .slice A13566 u13565.2.length c13566] rfl) j v hj)) ?_
             exact hK
            try dsimp only [putL, setL, evL, getL]
            refine HK_readP 12 (v := .slice A1p p1.length c1p) rfl (by kernel_rfl) (fun c l s h => hQp c l s h) rfl (fun s' K hK => ?_) rfl rfl (fun _ => hR) ?_
            ·refine o_move ?_
             exact hK
            try dsimp only [putL, setL, evL, getL]
            refine HK_readP 13 (v := .int .i64 x14385) rfl (by kernel_rfl) (fun c l s h => hQp c l s h) rfl (fun s' K hK => ?_) rfl rfl (fun _ => hR) ?_
            ·refine o_move ?_
             exact hK
            try dsimp only [putL, setL, evL, getL]
            refine HK_readP 14 (v := .int .i64 x14758) rfl (by kernel_rfl) (fun c l s h => hQp c l s h) rfl (fun s' K hK => ?_) rfl rfl (fun _ => hR) ?_
            ·refine o_move ?_
             exact hK
            try dsimp only [putL, setL, evL, getL]
            refine HK_readP 0 (v := .slice A13570 x13570.length c13570) rfl (by kernel_rfl) (fun c l s h => hQp c l s h) rfl (fun s' K hK => ?_) rfl rfl (fun _ => hR) ?_
            ·refine o_move ?_
             exact hK
            try dsimp only [putL, setL, evL, getL]
            refine HK_readP 1 (v := .int .i64 x14385) rfl (by kernel_rfl) (fun c l s h => hQp c l s h) rfl (fun s' K hK => ?_) rfl rfl (fun _ => hR) ?_
            ·refine o_move ?_
             exact hK
            try dsimp only [putL, setL, evL, getL]
            replace H := headE H
            obtain ⟨u14781, hu14781, H⟩ := H
            obtain ⟨b14781, o14781, vs14781, hA14781, -, hH⟩ := hH.open 1 rfl rfl hu14781
            dsimp only [addC, setC, rmC, selC, getC] at hH
            obtain ⟨A14782, c14782, rfl, hH⟩ := hH.el_sl 4 rfl rfl
            dsimp only [addC, setC, rmC, selC, getC] at hH
            replace hH : Hp sb s F0 s14774 [Ck.ol (Ow.sl OI 3) 24 A4 c4 u3.1, Ck.oh (Ow.sl OI 3) 24 A13570 c13570 x14757 (Int.toNat x14385) [.slice A14782 u14781.length c14782], Ck.oh (Ow.sl (Ow.sl OI 3) 24) 105 A13573 c13573 x13573 (Int.toNat (x9864.length : Int)) [.slice A13570 x13570.length c13570], Ck.ov b13567 [.int .i64 u13565.1, .slice A13566 u13565.2.length c13566] 139, Ck.ol OI 3 A14782 c14782 u14781] := hH
            refine HK_readP 2 (v := .pointer (some ⟨b14781, o14781 + Int.toNat x14385 * Kd.sz (Kd.sl KI), none⟩)) rfl (by kernel_rfl) (fun c l s h => hQp c l s h) rfl (fun s' K hK => ?_) rfl rfl (fun _ => hR) ?_
            ·refine iaddr_of (K := (Kd.sl KI)) hA14781 hu14781 s' (sliceLen hl14757) rfl Try.underlying105 tI24 ?_
             exact hK
            try dsimp only [putL, setL, evL, getL]
            refine HK_read 3 (v := .slice A14782 u14781.length c14782) rfl (by kernel_rfl) (fun c l s h => hQp c l s h) rfl (fun s' hR' K hK => ?_) rfl rfl hR ?_
            ·refine o_load' rfl Try.underlying24 rfl (has_gro hR' (hH.hasoh 1 rfl hA14781 0 _ rfl)) ?_
             exact hK
            try dsimp only [putL, setL, evL, getL]
            refine HK_readP 4 (v := .int .i64 x14758) rfl (by kernel_rfl) (fun c l s h => hQp c l s h) rfl (fun s' K hK => ?_) rfl rfl (fun _ => hR) ?_
            ·refine o_move ?_
             exact hK
            try dsimp only [putL, setL, evL, getL]
            refine HK_more [15] (by kernel_rfl) rfl (fun _ => hR) ⟨⟨_, rfl, Or.inl ⟨rfl, ?_⟩⟩, trivial⟩
            replace H := headE H
            obtain ⟨x14784, hx14784, H⟩ := H
            have hl14784 := st?_len hx14784
            replace H := headE H
            obtain ⟨u14783, hu14783, H⟩ := H
            skip
            refine o_call (args := #[.slice A13573 x14784.length c13573, .slice A14780 u14779.length c14780, .int .i64 x9865, .agg #[.int .i64 u13565.1, .slice A13566 u13565.2.length c13566], .slice A1p p1.length c1p, .int .i64 x14385, .int .i64 x14758]) Try.func200 rfl rfl (by show ([.slice A13573 x13573.length c13573, .slice A14780 u14779.length c14780, .int .i64 x9865, .agg #[.int .i64 u13565.1, .slice A13566 u13565.2.length c13566], .slice A1p p1.length c1p, .int .i64 x14385, .int .i64 x14758] : List Value) = [.slice A13573 x14784.length c13573, .slice A14780 u14779.length c14780, .int .i64 x9865, .agg #[.int .i64 u13565.1, .slice A13566 u13565.2.length c13566], .slice A1p p1.length c1p, .int .i64 x14385, .int .i64 x14758]; rw [hl14784]; first | done | rfl) (impl_countOf.ok s14774 s14774 no A13573 c13573 x14784 A14780 c14780 u14779 x9865 u13565.1 A13566 c13566 u13565.2 A1p c1p p1 x14385 x14758 (Ck.ohrd hH.bs (hH.ckP 2) rfl ⟨_, _, congrArg (fun v => [v]) (sliceLen hl14757), (Ck.ohrd hH.bs (hH.ckP 1) rfl ⟨_, _, rfl, (Ck.rdT hH.bs (hH.ckP 4) rfl)⟩ (st?_same hu14781))⟩ hx14784) D14780 (D13566.mono hH.bs.mono) (HRp1.mono hH.bs.mono) (Hp.own (Bs.refl s14774)) _ hu14783) ?_
            rintro _ s14783 ⟨rfl, hD⟩
            replace hR := hR.trans hD.gro
            replace hH := hH.back0T hD
            clear hD
            dsimp only [addC, setC, rmC, selC, getC] at hH
            try dsimp only [putL, setL, evL, getL]
            refine HK_readP 16 (v := .int .i64 (min u14783 1000000)) rfl (by kernel_rfl) (fun c l s h => hQp c l s h) rfl (fun s' K hK => ?_) rfl rfl (fun _ => hR) ?_
            ·refine o_min2 rfl rfl ?_
             exact hK
            try dsimp only [putL, setL, evL, getL]
            replace H := headE H
            obtain ⟨u14785, hu14785, H⟩ := H
            obtain ⟨b14785, o14785, cs14785, hA14785, hr14785, hh14785, hel14785⟩ := hH.elo 4 rfl hu14785
            obtain rfl := hr14785
            refine HK_readP 17 (v := .pointer (some ⟨b14785, o14785 + Int.toNat x14758 * Kd.sz KI, none⟩)) rfl (by kernel_rfl) (fun c l s h => hQp c l s h) rfl (fun s' K hK => ?_) rfl rfl (fun _ => hR) ?_
            ·refine hel14785 s' rfl rfl Try.underlying24 tI3 ?_
             exact hK
            try dsimp only [putL, setL, evL, getL]
            refine HK_more [18] (by kernel_rfl) rfl (fun _ => hR) ⟨⟨_, rfl, Or.inl ⟨rfl, ?_⟩⟩, trivial⟩
            replace H := headE H
            obtain ⟨x14786, hx14786, H⟩ := H
            skip
            refine o_setF (vs := [.int .i64 (min u14783 1000000)]) (u := min u14783 1000000) hH 4 rfl rfl rfl rfl rfl tI3 hA14785 hx14786 (Ent.own (Ent.flat rfl)) ?_
            intro s14786 hH'
            have hl14786 := st?_len hx14786
            replace hH : Hp sb s F0 s14786 [Ck.ol (Ow.sl OI 3) 24 A4 c4 u3.1, Ck.oh (Ow.sl OI 3) 24 A13570 c13570 x14757 (Int.toNat x14385) [.slice A14782 u14781.length c14782], Ck.oh (Ow.sl (Ow.sl OI 3) 24) 105 A13573 c13573 x13573 (Int.toNat (x9864.length : Int)) [.slice A13570 x13570.length c13570], Ck.ov b13567 [.int .i64 u13565.1, .slice A13566 u13565.2.length c13566] 139, Ck.ol OI 3 A14782 c14782 x14786] := hH'
            clear hH'
            try dsimp only [putL, setL, evL, getL]
            refine HK_free (by kernel_rfl) ?_
            refine HX_done (by kernel_rfl) ?_
            refine hK14778 _ _ ?_
            refine HT_region ?_
            refine HL_cons rfl ?_
            refine o_move ?_
            try dsimp only [putL, setL, evL, getL]
            refine HL_cons rfl ?_
            refine o_bin rfl rfl rfl ?_
            try dsimp only [putL, setL, evL, getL]
            refine HL_cons rfl ?_
            refine o_assign ?_
            try dsimp only [putL, setL, evL, getL]
            refine HL_nil ?_
            replace hH := hH.conv [4] (by decide) (d := Ck.el (Ow.sl OI 3) [.slice A14782 u14781.length c14782] x14786) (Ent.slL hl14786)
            dsimp only [addC, setC, rmC, selC, getC] at hH
            replace H := headE H
            obtain ⟨x14787, hx14787, H⟩ := H
            replace hH := hH.close (i := x14385) 1 5 (by decide) rfl rfl rfl hx14787
            dsimp only [addC, setC, rmC, selC, getC] at hH
            have hl14787 := (st?_len hx14787).trans hl14757
            replace hH : Hp sb s F0 s14786 [Ck.ol (Ow.sl OI 3) 24 A4 c4 u3.1, Ck.ol (Ow.sl OI 3) 24 A13570 c13570 x14787, Ck.oh (Ow.sl (Ow.sl OI 3) 24) 105 A13573 c13573 x13573 (Int.toNat (x9864.length : Int)) [.slice A13570 x13570.length c13570], Ck.ov b13567 [.int .i64 u13565.1, .slice A13566 u13565.2.length c13566] 139, Ck.emp, Ck.emp] := hH
            exact hK14774 _ _ ⟨kf, Nat.lt_succ_self kf, x14787, IntKind.i64.wrap (x14758 + 1), H, rfl, hH.sel [0, 1, 2, 3] (by decide), hl14787⟩
           ·replace H := iteF hb14777 H
            refine HT_false (congrArg Value.bool hb14777) ?_
            refine HT_exit ?_
            exact hK14698 _ _ ⟨x14757, H, rfl, hH, hl14757⟩
         ·rintro l' s14788 ⟨x14743, H, hl, hH, hl14743⟩
          generalize getL l' 12 = j12, getL l' 48 = j48, getL l' 49 = j49, getL l' 50 = j50, getL l' 51 = j51, getL l' 52 = j52, getL l' 53 = j53, getL l' 54 = j54, getL l' 55 = j55, getL l' 56 = j56, getL l' 57 = j57, getL l' 58 = j58, getL l' 59 = j59, getL l' 60 = j60, getL l' 61 = j61, getL l' 62 = j62, getL l' 63 = j63, getL l' 64 = j64, getL l' 65 = j65, getL l' 66 = j66, getL l' 67 = j67, getL l' 68 = j68, getL l' 69 = j69, getL l' 70 = j70, getL l' 71 = j71 at hl
          subst hl
          replace H := hG14698 _ H
          try dsimp only at H
          exact hK14593 _ _ ⟨x14743, H, rfl, hH, hl14743⟩
        ·rintro l' s14789 ⟨x14691, H, hl, hH, hl14691⟩
         generalize getL l' 12 = j12, getL l' 40 = j40, getL l' 41 = j41, getL l' 42 = j42, getL l' 43 = j43, getL l' 44 = j44, getL l' 45 = j45, getL l' 46 = j46, getL l' 47 = j47, getL l' 48 = j48, getL l' 49 = j49, getL l' 50 = j50, getL l' 51 = j51, getL l' 52 = j52, getL l' 53 = j53, getL l' 54 = j54, getL l' 55 = j55, getL l' 56 = j56, getL l' 57 = j57, getL l' 58 = j58, getL l' 59 = j59, getL l' 60 = j60, getL l' 61 = j61, getL l' 62 = j62, getL l' 63 = j63, getL l' 64 = j64, getL l' 65 = j65, getL l' 66 = j66, getL l' 67 = j67, getL l' 68 = j68, getL l' 69 = j69, getL l' 70 = j70, getL l' 71 = j71 at hl
         subst hl
         replace H := hG14593 _ H
         try dsimp only at H
         refine HT_region ?_
         refine HL_cons rfl ?_
         refine o_move ?_
         try dsimp only [putL, setL, evL, getL]
         refine HL_cons rfl ?_
         refine o_bin rfl rfl rfl ?_
         try dsimp only [putL, setL, evL, getL]
         refine HL_cons rfl ?_
         refine o_assign ?_
         try dsimp only [putL, setL, evL, getL]
         refine HL_nil ?_
         exact hK14589 _ _ ⟨kf, Nat.lt_succ_self kf, x14691, IntKind.i64.wrap (x14385 - 1), H, rfl, hH, hl14691⟩
       ·replace H := iteF hb14592 H
        refine HT_false (congrArg Value.bool hb14592) ?_
        refine HT_exit ?_
        replace hH := hH.conv [1] (by decide) (d := Ck.el (Ow.sl (Ow.sl OI 3) 24) [.slice A13570 x13570.length c13570] x14384) (Ent.slL hl14384)
        dsimp only [addC, setC, rmC, selC, getC] at hH
        replace H := headE H
        obtain ⟨x14790, hx14790, H⟩ := H
        replace hH := hH.close (i := (x9864.length : Int)) 2 4 (by decide) rfl rfl rfl hx14790
        dsimp only [addC, setC, rmC, selC, getC] at hH
        have hl14790 := st?_len hx14790
        replace hH : Hp sb s F0 s14589 [Ck.ol (Ow.sl OI 3) 24 A4 c4 u3.1, Ck.emp, Ck.ol (Ow.sl (Ow.sl OI 3) 24) 105 A13573 c13573 x14790, Ck.ov b13567 [.int .i64 u13565.1, .slice A13566 u13565.2.length c13566] 139, Ck.emp] := hH
        exact hK13575 _ _ ⟨x14790, A13573, c13573, H, (by first | (rw [hl14790]; first | done | rfl) | rfl), hH.sel [2, 0] (by decide)⟩
     ·rintro l' s14791 ⟨x14183, A14183, c14183, H, hl, hH⟩
      generalize getL l' 11 = j11, getL l' 12 = j12, getL l' 36 = j36, getL l' 37 = j37, getL l' 38 = j38, getL l' 39 = j39, getL l' 40 = j40, getL l' 41 = j41, getL l' 42 = j42, getL l' 43 = j43, getL l' 44 = j44, getL l' 45 = j45, getL l' 46 = j46, getL l' 47 = j47, getL l' 48 = j48, getL l' 49 = j49, getL l' 50 = j50, getL l' 51 = j51, getL l' 52 = j52, getL l' 53 = j53, getL l' 54 = j54, getL l' 55 = j55, getL l' 56 = j56, getL l' 57 = j57, getL l' 58 = j58, getL l' 59 = j59, getL l' 60 = j60, getL l' 61 = j61, getL l' 62 = j62, getL l' 63 = j63, getL l' 64 = j64, getL l' 65 = j65, getL l' 66 = j66, getL l' 67 = j67, getL l' 68 = j68, getL l' 69 = j69, getL l' 70 = j70, getL l' 71 = j71 at hl
      subst hl
      replace H := hG13575 _ H
      try dsimp only at H
      exact hK12334 _ _ ⟨x14183, A14183, c14183, H, rfl, hH⟩
    ·rintro l' s14792 ⟨x13563, A13563, c13563, H, hl, hH⟩
     generalize getL l' 8 = j8, getL l' 9 = j9, getL l' 10 = j10, getL l' 11 = j11, getL l' 12 = j12, getL l' 23 = j23, getL l' 24 = j24, getL l' 25 = j25, getL l' 26 = j26, getL l' 27 = j27, getL l' 28 = j28, getL l' 29 = j29, getL l' 30 = j30, getL l' 31 = j31, getL l' 32 = j32, getL l' 33 = j33, getL l' 34 = j34, getL l' 35 = j35, getL l' 36 = j36, getL l' 37 = j37, getL l' 38 = j38, getL l' 39 = j39, getL l' 40 = j40, getL l' 41 = j41, getL l' 42 = j42, getL l' 43 = j43, getL l' 44 = j44, getL l' 45 = j45, getL l' 46 = j46, getL l' 47 = j47, getL l' 48 = j48, getL l' 49 = j49, getL l' 50 = j50, getL l' 51 = j51, getL l' 52 = j52, getL l' 53 = j53, getL l' 54 = j54, getL l' 55 = j55, getL l' 56 = j56, getL l' 57 = j57, getL l' 58 = j58, getL l' 59 = j59, getL l' 60 = j60, getL l' 61 = j61, getL l' 62 = j62, getL l' 63 = j63, getL l' 64 = j64, getL l' 65 = j65, getL l' 66 = j66, getL l' 67 = j67, getL l' 68 = j68, getL l' 69 = j69, getL l' 70 = j70, getL l' 71 = j71 at hl
     subst hl
     replace H := hG12334 _ H
     try dsimp only at H
     refine HT_region ?_
     refine HL_cons rfl ?_
     refine o_bin rfl rfl rfl ?_
     try dsimp only [putL, setL, evL, getL]
     refine HL_cons rfl ?_
     refine o_move ?_
     try dsimp only [putL, setL, evL, getL]
     refine HL_nil ?_
     exact hK12330 _ _ ⟨kf, Nat.lt_succ_self kf, x13563, A13563, c13563, IntKind.i64.wrap (x9865 + 1), H, rfl, hH⟩
   ·replace H := iteF hb12333 H
    refine HT_false (congrArg Value.bool hb12333) ?_
    refine HT_exit ?_
    exact hK9 _ _ ⟨x9864, A9864, c9864, H, rfl, hH.sel [0] (by decide)⟩
 ·rintro l' s14793 ⟨x7401, A7401, c7401, H, hl, hH⟩
  generalize getL l' 8 = j8, getL l' 9 = j9, getL l' 10 = j10, getL l' 11 = j11, getL l' 12 = j12, getL l' 21 = j21, getL l' 22 = j22, getL l' 23 = j23, getL l' 24 = j24, getL l' 25 = j25, getL l' 26 = j26, getL l' 27 = j27, getL l' 28 = j28, getL l' 29 = j29, getL l' 30 = j30, getL l' 31 = j31, getL l' 32 = j32, getL l' 33 = j33, getL l' 34 = j34, getL l' 35 = j35, getL l' 36 = j36, getL l' 37 = j37, getL l' 38 = j38, getL l' 39 = j39, getL l' 40 = j40, getL l' 41 = j41, getL l' 42 = j42, getL l' 43 = j43, getL l' 44 = j44, getL l' 45 = j45, getL l' 46 = j46, getL l' 47 = j47, getL l' 48 = j48, getL l' 49 = j49, getL l' 50 = j50, getL l' 51 = j51, getL l' 52 = j52, getL l' 53 = j53, getL l' 54 = j54, getL l' 55 = j55, getL l' 56 = j56, getL l' 57 = j57, getL l' 58 = j58, getL l' 59 = j59, getL l' 60 = j60, getL l' 61 = j61, getL l' 62 = j62, getL l' 63 = j63, getL l' 64 = j64, getL l' 65 = j65, getL l' 66 = j66, getL l' 67 = j67, getL l' 68 = j68, getL l' 69 = j69, getL l' 70 = j70, getL l' 71 = j71, getL l' 72 = j72 at hl
  subst hl
  replace H := hG9 _ H
  try dsimp only at H
  refine hK7 _ _ ?_
  refine HT_seq_k ?_
  intro K14794 hK14794
  refine HT_region ?_
  refine HL_cons rfl ?_
  refine o_move ?_
  try dsimp only [putL, setL, evL, getL]
  refine HL_cons rfl ?_
  refine o_assign ?_
  try dsimp only [putL, setL, evL, getL]
  refine HL_nil ?_
  refine hK14794 _ _ ?_
  refine HT_ret ?_
  exact hQr _ _ [.slice A7401 x7401.length c7401] ⟨rfl, trivial⟩ (retH (fun r => impl_counts.post sb s F0 r _ _) (show some _ = some r from H) ⟨A7401, c7401, rfl, hH⟩)
def impl_CountParses.f (p0 : List ((Int) × (List (Int)))) (p1 : List (Int)) : Option (Int × Bool) := (impl_canParse.f p0 p1).bind fun u4 => if (!u4) = true then (some (0, false)) else ((impl_counts.f p0 p1).bind fun u8 => (rd? u8 (IntKind.i64.wrap ((p0.length : Int) - 1))).bind fun u10 => (rd? u10 0).bind fun u12 => (rd? u12 (p1.length : Int)).bind fun u14 => some (u14, true))
def impl_CountParses.post (sb s : St) (F0 : Fp) (r : Int × Bool) : Value → St → Prop := fun v s' => v = .tuple #[.int .i64 r.1, .bool r.2] ∧ Hp sb s F0 s' []
set_option maxRecDepth 100000 in
set_option maxHeartbeats 4000000 in
theorem impl_CountParses.ok (sb s : St) (F0 : Fp) (A0p : Option Addr) (c0p : Nat) (p0 : List ((Int) × (List (Int)))) (A1p : Option Addr) (c1p : Nat) (p1 : List (Int)) (HRp0 : Rd KS139 sb A0p c0p p0) (HRp1 : Rd KI sb A1p c1p p1) (hH : Hp sb s F0 s []) (r : Int × Bool) (H : impl_CountParses.f p0 p1 = some r) : GCall Try.prog 62 #[.slice A0p p0.length c0p, .slice A1p p1.length c1p] s (impl_CountParses.post sb s F0 r) := by
 refine GCall_ofk [.tmp 4, .tmp 5] [.slice A0p p0.length c0p, .slice A1p p1.length c1p, undef, undef, undef, undef, undef, undef, undef, undef, undef, undef, undef, undef, undef, undef, undef, undef, undef, undef, undef, undef, undef, undef] Try.func62 rfl rfl rfl ?_
 intro w Q hQr hQn hQp
 replace H := topE H
 unfold impl_CountParses.f at H
 refine HT_seq_k ?_
 intro K1 hK1
 refine HT_region ?_
 refine HL_cons rfl ?_
 refine o_assign ?_
 try dsimp only [putL, setL, evL, getL]
 refine HL_cons rfl ?_
 refine o_assign ?_
 try dsimp only [putL, setL, evL, getL]
 refine HL_nil ?_
 refine hK1 _ _ ?_
 refine HT_seq_k ?_
 intro K2 hK2
 refine HT_seq_k ?_
 intro K3 hK3
 refine HT_region ?_
 refine HL_cons rfl ?_
 refine o_move ?_
 try dsimp only [putL, setL, evL, getL]
 refine HL_cons rfl ?_
 refine o_move ?_
 try dsimp only [putL, setL, evL, getL]
 replace H := headE H
 obtain ⟨u4, hu4, H⟩ := H
 refine HL_cons rfl ?_
 refine o_call (args := #[.slice A0p p0.length c0p, .slice A1p p1.length c1p]) Try.func152 rfl rfl rfl (impl_canParse.ok sb s no A0p c0p p0 A1p c1p p1 HRp0 HRp1 (Hp.own hH.bs) _ hu4) ?_
 rintro _ s4 ⟨rfl, hD⟩
 replace hH := hH.back0 hD (Up.refl _ _ _)
 clear hD
 dsimp only [addC, setC, rmC, selC, getC] at hH
 try dsimp only [putL, setL, evL, getL]
 refine HL_cons rfl ?_
 refine o_not rfl ?_
 try dsimp only [putL, setL, evL, getL]
 refine HL_nil ?_
 refine hK3 _ _ ?_
 rcases Bool.eq_false_or_eq_true (!u4) with hb5 | hb5
 ·replace H := iteT hb5 H
  refine HT_true (congrArg Value.bool hb5) ?_
  refine HT_seq_k ?_
  intro K6 hK6
  refine HT_region ?_
  refine HL_cons rfl ?_
  refine o_assign ?_
  try dsimp only [putL, setL, evL, getL]
  refine HL_cons rfl ?_
  refine o_assign ?_
  try dsimp only [putL, setL, evL, getL]
  refine HL_nil ?_
  refine hK6 _ _ ?_
  refine HT_ret ?_
  exact hQr _ _ [.int .i64 0, .bool false] ⟨rfl, rfl, trivial⟩ (retH (fun r => impl_CountParses.post sb s F0 r _ _) (show some _ = some r from H) ⟨rfl, hH⟩)
 ·replace H := iteF hb5 H
  refine HT_false (congrArg Value.bool hb5) ?_
  refine HT_skip ?_
  refine hK2 _ _ ?_
  refine HT_seq_k ?_
  intro K7 hK7
  refine HT_region ?_
  refine HL_cons rfl ?_
  refine o_move ?_
  try dsimp only [putL, setL, evL, getL]
  refine HL_cons rfl ?_
  refine o_move ?_
  try dsimp only [putL, setL, evL, getL]
  replace H := headE H
  obtain ⟨u8, hu8, H⟩ := H
  refine HL_cons rfl ?_
  refine o_call (args := #[.slice A0p p0.length c0p, .slice A1p p1.length c1p]) Try.func153 rfl rfl rfl (impl_counts.ok sb s4 no A0p c0p p0 A1p c1p p1 HRp0 HRp1 (Hp.own hH.bs) _ hu8) ?_
  rintro _ s8 ⟨A9, c9, rfl, hD⟩
  replace hH := hH.back0 hD (Up.refl _ _ _)
  clear hD
  dsimp only [addC, setC, rmC, selC, getC] at hH
  try dsimp only [putL, setL, evL, getL]
  refine HL_cons rfl ?_
  refine o_move ?_
  try dsimp only [putL, setL, evL, getL]
  refine HL_cons rfl ?_
  refine o_len rfl Try.underlying57 ?_
  try dsimp only [putL, setL, evL, getL]
  refine HL_cons rfl ?_
  refine o_bin rfl rfl rfl ?_
  try dsimp only [putL, setL, evL, getL]
  replace H := headE H
  obtain ⟨u10, hu10, H⟩ := H
  obtain ⟨b10, o10, cs10, hA10, hr10, hh10, hel10⟩ := hH.elo 0 rfl hu10
  obtain ⟨A11, c11, rfl, D11⟩ := hr10
  refine HL_cons rfl ?_
  refine hel10 s8 rfl rfl Try.underlying156 tI105 ?_
  try dsimp only [putL, setL, evL, getL]
  refine HL_cons rfl ?_
  refine o_load' rfl Try.underlying105 rfl (hh10 0 _ rfl) ?_
  try dsimp only [putL, setL, evL, getL]
  replace H := headE H
  obtain ⟨u12, hu12, H⟩ := H
  obtain ⟨b12, o12, cs12, hr12, hh12, hel12⟩ := Rd.el D11 hu12
  obtain ⟨A13, c13, rfl, D13⟩ := hr12
  refine HL_cons rfl ?_
  refine hel12 s8 rfl rfl Try.underlying105 tI24 ?_
  try dsimp only [putL, setL, evL, getL]
  refine HL_cons rfl ?_
  refine o_load' rfl Try.underlying24 rfl (hh12 0 _ rfl) ?_
  try dsimp only [putL, setL, evL, getL]
  refine HL_cons rfl ?_
  refine o_move ?_
  try dsimp only [putL, setL, evL, getL]
  refine HL_cons rfl ?_
  refine o_len rfl Try.underlying24 ?_
  try dsimp only [putL, setL, evL, getL]
  replace H := headE H
  obtain ⟨u14, hu14, H⟩ := H
  obtain ⟨b14, o14, cs14, hr14, hh14, hel14⟩ := Rd.el D13 hu14
  obtain rfl := hr14
  refine HL_cons rfl ?_
  refine hel14 s8 rfl rfl Try.underlying24 tI3 ?_
  try dsimp only [putL, setL, evL, getL]
  refine HL_cons rfl ?_
  refine o_load' rfl Try.underlying3 rfl (hh14 0 _ rfl) ?_
  try dsimp only [putL, setL, evL, getL]
  refine HL_cons rfl ?_
  refine o_assign ?_
  try dsimp only [putL, setL, evL, getL]
  refine HL_cons rfl ?_
  refine o_assign ?_
  try dsimp only [putL, setL, evL, getL]
  refine HL_nil ?_
  refine hK7 _ _ ?_
  refine HT_ret ?_
  exact hQr _ _ [.int .i64 u14, .bool true] ⟨rfl, rfl, trivial⟩ (retH (fun r => impl_CountParses.post sb s F0 r _ _) (show some _ = some r from H) ⟨rfl, hH.sel [] (by decide)⟩)
def laws_eqIntS.l1 (p0 : List (Int)) (p1 : List (Int)) : Nat → Int → Option (Lo Unit Bool)
 | 0, _ => none
 | kf + 1, x48 => if (decide (x48 < (p0.length : Int))) = true then ((rd? p0 x48).bind fun u65 => (rd? p1 x48).bind fun u66 => if (u65 != u66) = true then ((some false).bind fun z => some (Lo.ret z)) else (laws_eqIntS.l1 p0 p1 kf (IntKind.i64.wrap (x48 + 1)))) else (some (Lo.go ()))
def laws_eqIntS.f (p0 : List (Int)) (p1 : List (Int)) : Option Bool := if ((p0.length : Int) != (p1.length : Int)) = true then (some false) else ((laws_eqIntS.l1 p0 p1 ((((p0.length : Int)) - (0)).toNat + 2) 0).bind fun (o : Lo Unit Bool) => match o with | .go () => (some true) | .ret z => some z)
def laws_eqIntS.post (sb s : St) (F0 : Fp) (r : Bool) : Value → St → Prop := fun v s' => v = .bool r ∧ Hp sb s F0 s' []
set_option maxRecDepth 100000 in
set_option maxHeartbeats 4000000 in
theorem laws_eqIntS.ok (sb s : St) (F0 : Fp) (A0p : Option Addr) (c0p : Nat) (p0 : List (Int)) (A1p : Option Addr) (c1p : Nat) (p1 : List (Int)) (HRp0 : Rd KI sb A0p c0p p0) (HRp1 : Rd KI sb A1p c1p p1) (hH : Hp sb s F0 s []) (r : Bool) (H : laws_eqIntS.f p0 p1 = some r) : GCall Try.prog 63 #[.slice A0p p0.length c0p, .slice A1p p1.length c1p] s (laws_eqIntS.post sb s F0 r) := by
 refine GCall_ofk [.tmp 4] [.slice A0p p0.length c0p, .slice A1p p1.length c1p, undef, undef, undef, undef, undef, undef, undef, undef, undef, undef, undef, undef, undef, undef, undef, undef, undef, undef, undef, undef, undef, undef, undef, undef] Try.func63 rfl rfl rfl ?_
 intro w Q hQr hQn hQp
 replace H := topE H
 unfold laws_eqIntS.f at H
 refine HT_seq_k ?_
 intro K1 hK1
 refine HT_region ?_
 refine HL_cons rfl ?_
 refine o_assign ?_
 try dsimp only [putL, setL, evL, getL]
 refine HL_nil ?_
 refine hK1 _ _ ?_
 refine HT_seq_k ?_
 intro K2 hK2
 refine HT_seq_k ?_
 intro K3 hK3
 refine HT_region ?_
 refine HL_cons rfl ?_
 refine o_move ?_
 try dsimp only [putL, setL, evL, getL]
 refine HL_cons rfl ?_
 refine o_len rfl Try.underlying24 ?_
 try dsimp only [putL, setL, evL, getL]
 refine HL_cons rfl ?_
 refine o_move ?_
 try dsimp only [putL, setL, evL, getL]
 refine HL_cons rfl ?_
 refine o_len rfl Try.underlying24 ?_
 try dsimp only [putL, setL, evL, getL]
 refine HL_cons rfl ?_
 refine o_bin rfl rfl rfl ?_
 try dsimp only [putL, setL, evL, getL]
 refine HL_nil ?_
 refine hK3 _ _ ?_
 rcases Bool.eq_false_or_eq_true ((p0.length : Int) != (p1.length : Int)) with hb4 | hb4
 ·replace H := iteT hb4 H
  refine HT_true (congrArg Value.bool hb4) ?_
  refine HT_seq_k ?_
  intro K5 hK5
  refine HT_region ?_
  refine HL_cons rfl ?_
  refine o_assign ?_
  try dsimp only [putL, setL, evL, getL]
  refine HL_nil ?_
  refine hK5 _ _ ?_
  refine HT_ret ?_
  exact hQr _ _ [.bool false] ⟨rfl, trivial⟩ (retH (fun r => laws_eqIntS.post sb s F0 r _ _) (show some _ = some r from H) ⟨rfl, hH⟩)
 ·replace H := iteF hb4 H
  refine HT_false (congrArg Value.bool hb4) ?_
  refine HT_skip ?_
  refine hK2 _ _ ?_
  refine HT_seq_k ?_
  intro K6 hK6
  refine HT_seq_k ?_
  intro K7 hK7
  refine HT_region ?_
  refine HL_cons rfl ?_
  refine o_assign ?_
  try dsimp only [putL, setL, evL, getL]
  refine HL_nil ?_
  refine hK7 _ _ ?_
  refine joinH H fun G8 hG8 H => ?_
  refine HT_toK (fun l' s' => G8 (.go ()) = some r ∧ l' = [.slice A0p p0.length c0p, .slice A1p p1.length c1p, undef, undef, getL l' 4, getL l' 5, .slice A0p p0.length c0p, .int .i64 (p0.length : Int), .slice A1p p1.length c1p, .int .i64 (p1.length : Int), .bool ((p0.length : Int) != (p1.length : Int)), getL l' 11, getL l' 12, getL l' 13, getL l' 14, getL l' 15, getL l' 16, getL l' 17, getL l' 18, getL l' 19, getL l' 20, getL l' 21, getL l' 22, getL l' 23, getL l' 24, getL l' 25] ∧ Hp sb s F0 s' []) ?_ ?_
  ·intro K8 hK8
   refine HT_block ?_
   refine HT_loopK (fun kf l' s' => ∃ (x48 : Int), (laws_eqIntS.l1 p0 p1 kf x48).bind G8 = some r ∧ l' = [.slice A0p p0.length c0p, .slice A1p p1.length c1p, undef, undef, getL l' 4, .int .i64 x48, .slice A0p p0.length c0p, .int .i64 (p0.length : Int), .slice A1p p1.length c1p, .int .i64 (p1.length : Int), .bool ((p0.length : Int) != (p1.length : Int)), getL l' 11, getL l' 12, getL l' 13, getL l' 14, getL l' 15, getL l' 16, getL l' 17, getL l' 18, getL l' 19, getL l' 20, getL l' 21, getL l' 22, getL l' 23, getL l' 24, getL l' 25] ∧ Hp sb s F0 s' []) ((((p0.length : Int)) - (0)).toNat + 2) ⟨0, H, rfl, hH⟩ ?_
   rintro kf l' s59 ⟨x48, H, hl, hH⟩ K59 hK59
   generalize getL l' 4 = j4, getL l' 11 = j11, getL l' 12 = j12, getL l' 13 = j13, getL l' 14 = j14, getL l' 15 = j15, getL l' 16 = j16, getL l' 17 = j17, getL l' 18 = j18, getL l' 19 = j19, getL l' 20 = j20, getL l' 21 = j21, getL l' 22 = j22, getL l' 23 = j23, getL l' 24 = j24, getL l' 25 = j25 at hl
   subst hl
   cases kf with
   | zero => simp [laws_eqIntS.l1] at H
   | succ kf =>
    rw [laws_eqIntS.l1] at H
    refine HT_seq_k ?_
    intro K60 hK60
    refine HT_seq_k ?_
    intro K61 hK61
    refine HT_region ?_
    refine HL_cons rfl ?_
    refine o_move ?_
    try dsimp only [putL, setL, evL, getL]
    refine HL_cons rfl ?_
    refine o_move ?_
    try dsimp only [putL, setL, evL, getL]
    refine HL_cons rfl ?_
    refine o_len rfl Try.underlying24 ?_
    try dsimp only [putL, setL, evL, getL]
    refine HL_cons rfl ?_
    refine o_bin rfl rfl rfl ?_
    try dsimp only [putL, setL, evL, getL]
    refine HL_nil ?_
    refine hK61 _ _ ?_
    rcases Bool.eq_false_or_eq_true (decide (x48 < (p0.length : Int))) with hb62 | hb62
    ·replace H := iteT hb62 H
     refine HT_true (congrArg Value.bool hb62) ?_
     refine HT_skip ?_
     refine hK60 _ _ ?_
     refine HT_seq_k ?_
     intro K63 hK63
     refine HT_block ?_
     refine HT_seq_k ?_
     intro K64 hK64
     refine HX_draw hMix ?_
     refine HX_lim (R := fun _ => True) (k := 0) (fun s' => Gro s59 s') 10 ?_
     have hR := Gro.refl s59
     have hH0 := hH
     refine HK_readP 0 (v := .slice A0p p0.length c0p) rfl (by kernel_rfl) (fun c l s h => hQp c l s h) rfl (fun s' K hK => ?_) rfl rfl (fun _ => hR) ?_
     ·refine o_move ?_
      exact hK
     try dsimp only [putL, setL, evL, getL]
     refine HK_readP 1 (v := .int .i64 x48) rfl (by kernel_rfl) (fun c l s h => hQp c l s h) rfl (fun s' K hK => ?_) rfl rfl (fun _ => hR) ?_
     ·refine o_move ?_
      exact hK
     try dsimp only [putL, setL, evL, getL]
     replace H := headE H
     obtain ⟨u65, hu65, H⟩ := H
     obtain ⟨b65, o65, cs65, hr65, hh65, hel65⟩ := Rd.elb HRp0 hu65
     obtain rfl := hr65
     refine HK_readP 2 (v := .pointer (some ⟨b65, o65, none⟩)) rfl (by kernel_rfl) (fun c l s h => hQp c l s h) rfl (fun s' K hK => ?_) rfl rfl (fun _ => hR) ?_
     ·refine hel65 s' rfl rfl Try.underlying24 tI3 ?_
      exact hK
     try dsimp only [putL, setL, evL, getL]
     refine HK_read 3 (v := .int .i64 u65) rfl (by kernel_rfl) (fun c l s h => hQp c l s h) rfl (fun s' hR' K hK => ?_) rfl rfl hR ?_
     ·refine o_load' rfl Try.underlying3 rfl ((hh65 (hH0.bs.mono.trans hR'.mono)) 0 _ rfl) ?_
      exact hK
     try dsimp only [putL, setL, evL, getL]
     refine HK_readP 4 (v := .slice A1p p1.length c1p) rfl (by kernel_rfl) (fun c l s h => hQp c l s h) rfl (fun s' K hK => ?_) rfl rfl (fun _ => hR) ?_
     ·refine o_move ?_
      exact hK
     try dsimp only [putL, setL, evL, getL]
     refine HK_readP 5 (v := .int .i64 x48) rfl (by kernel_rfl) (fun c l s h => hQp c l s h) rfl (fun s' K hK => ?_) rfl rfl (fun _ => hR) ?_
     ·refine o_move ?_
      exact hK
     try dsimp only [putL, setL, evL, getL]
     replace H := headE H
     obtain ⟨u66, hu66, H⟩ := H
     obtain ⟨b66, o66, cs66, hr66, hh66, hel66⟩ := Rd.elb HRp1 hu66
     obtain rfl := hr66
     refine HK_readP 6 (v := .pointer (some ⟨b66, o66, none⟩)) rfl (by kernel_rfl) (fun c l s h => hQp c l s h) rfl (fun s' K hK => ?_) rfl rfl (fun _ => hR) ?_
     ·refine hel66 s' rfl rfl Try.underlying24 tI3 ?_
      exact hK
     try dsimp only [putL, setL, evL, getL]
     refine HK_read 7 (v := .int .i64 u66) rfl (by kernel_rfl) (fun c l s h => hQp c l s h) rfl (fun s' hR' K hK => ?_) rfl rfl hR ?_
     ·refine o_load' rfl Try.underlying3 rfl ((hh66 (hH0.bs.mono.trans hR'.mono)) 0 _ rfl) ?_
      exact hK
     try dsimp only [putL, setL, evL, getL]
     refine HK_readP 8 (v := .bool (u65 != u66)) rfl (by kernel_rfl) (fun c l s h => hQp c l s h) rfl (fun s' K hK => ?_) rfl rfl (fun _ => hR) ?_
     ·refine o_bin rfl rfl rfl ?_
      exact hK
     try dsimp only [putL, setL, evL, getL]
     refine HK_done (fun _ => hR) (by kernel_rfl) ?_
     refine hK64 _ _ ?_
     rcases Bool.eq_false_or_eq_true (u65 != u66) with hb67 | hb67
     ·replace H := iteT hb67 H
      refine HT_true (congrArg Value.bool hb67) ?_
      refine HT_seq_k ?_
      intro K68 hK68
      refine HT_region ?_
      refine HL_cons rfl ?_
      refine o_assign ?_
      try dsimp only [putL, setL, evL, getL]
      refine HL_nil ?_
      refine hK68 _ _ ?_
      refine HT_ret ?_
      replace H := escH (fun z hz => hG8 _ hz) H
      exact hQr _ _ [.bool false] ⟨rfl, trivial⟩ (retH (fun r => laws_eqIntS.post sb s F0 r _ _) (show some _ = some r from H) ⟨rfl, hH⟩)
     ·replace H := iteF hb67 H
      refine HT_false (congrArg Value.bool hb67) ?_
      refine HT_skip ?_
      refine hK63 _ _ ?_
      refine HT_region ?_
      refine HL_cons rfl ?_
      refine o_move ?_
      try dsimp only [putL, setL, evL, getL]
      refine HL_cons rfl ?_
      refine o_bin rfl rfl rfl ?_
      try dsimp only [putL, setL, evL, getL]
      refine HL_cons rfl ?_
      refine o_assign ?_
      try dsimp only [putL, setL, evL, getL]
      refine HL_nil ?_
      exact hK59 _ _ ⟨kf, Nat.lt_succ_self kf, IntKind.i64.wrap (x48 + 1), H, rfl, hH⟩
    ·replace H := iteF hb62 H
     refine HT_false (congrArg Value.bool hb62) ?_
     refine HT_exit ?_
     exact hK8 _ _ ⟨H, rfl, hH⟩
  ·rintro l' s69 ⟨H, hl, hH⟩
   generalize getL l' 4 = j4, getL l' 5 = j5, getL l' 11 = j11, getL l' 12 = j12, getL l' 13 = j13, getL l' 14 = j14, getL l' 15 = j15, getL l' 16 = j16, getL l' 17 = j17, getL l' 18 = j18, getL l' 19 = j19, getL l' 20 = j20, getL l' 21 = j21, getL l' 22 = j22, getL l' 23 = j23, getL l' 24 = j24, getL l' 25 = j25 at hl
   subst hl
   replace H := hG8 _ H
   try dsimp only at H
   refine hK6 _ _ ?_
   refine HT_seq_k ?_
   intro K70 hK70
   refine HT_region ?_
   refine HL_cons rfl ?_
   refine o_assign ?_
   try dsimp only [putL, setL, evL, getL]
   refine HL_nil ?_
   refine hK70 _ _ ?_
   refine HT_ret ?_
   exact hQr _ _ [.bool true] ⟨rfl, trivial⟩ (retH (fun r => laws_eqIntS.post sb s F0 r _ _) (show some _ = some r from H) ⟨rfl, hH⟩)
def laws_eqRe.f (p0_0 : Int) (p0_1 : List (Int)) (p1_0 : Int) (p1_1 : List (Int)) : Option Bool := if (p0_0 != p1_0) = true then (some false) else ((laws_eqIntS.f p0_1 p1_1).bind fun u10 => if (!u10) = true then (some false) else (some true))
def laws_eqRe.post (sb s : St) (F0 : Fp) (r : Bool) : Value → St → Prop := fun v s' => v = .bool r ∧ Hp sb s F0 s' []
set_option maxRecDepth 100000 in
set_option maxHeartbeats 4000000 in
theorem laws_eqRe.ok (sb s : St) (F0 : Fp) (p0_0 : Int) (A0_1p : Option Addr) (c0_1p : Nat) (p0_1 : List (Int)) (p1_0 : Int) (A1_1p : Option Addr) (c1_1p : Nat) (p1_1 : List (Int)) (HRp0_1 : Rd KI sb A0_1p c0_1p p0_1) (HRp1_1 : Rd KI sb A1_1p c1_1p p1_1) (hH : Hp sb s F0 s []) (r : Bool) (H : laws_eqRe.f p0_0 p0_1 p1_0 p1_1 = some r) : GCall Try.prog 138 #[.agg #[.int .i64 p0_0, .slice A0_1p p0_1.length c0_1p], .agg #[.int .i64 p1_0, .slice A1_1p p1_1.length c1_1p]] s (laws_eqRe.post sb s F0 r) := by
 refine GCall_ofk [.tmp 4] [.agg #[.int .i64 p0_0, .slice A0_1p p0_1.length c0_1p], .agg #[.int .i64 p1_0, .slice A1_1p p1_1.length c1_1p], undef, undef, undef, undef, undef, undef, undef, undef, undef, undef, undef, undef, undef, undef] Try.func138 rfl rfl rfl ?_
 intro w Q hQr hQn hQp
 replace H := topE H
 unfold laws_eqRe.f at H
 refine HT_seq_k ?_
 intro K1 hK1
 refine HT_region ?_
 refine HL_cons rfl ?_
 refine o_boxH hH rfl ?_
 intro b2 s2 hH' hG
 replace hH : Hp sb s F0 s2 [Ck.ov b2 [.int .i64 p0_0, .slice A0_1p p0_1.length c0_1p] 139] := hH'
 clear hH' hG
 try dsimp only [putL, setL, evL, getL]
 refine HL_cons rfl ?_
 refine o_boxH hH rfl ?_
 intro b3 s3 hH' hG
 replace hH : Hp sb s F0 s3 [Ck.ov b2 [.int .i64 p0_0, .slice A0_1p p0_1.length c0_1p] 139, Ck.ov b3 [.int .i64 p1_0, .slice A1_1p p1_1.length c1_1p] 139] := hH'
 clear hH' hG
 try dsimp only [putL, setL, evL, getL]
 refine HL_cons rfl ?_
 refine o_assign ?_
 try dsimp only [putL, setL, evL, getL]
 refine HL_nil ?_
 refine hK1 _ _ ?_
 refine HT_seq_k ?_
 intro K4 hK4
 refine HT_seq_k ?_
 intro K5 hK5
 refine HT_region ?_
 refine HL_cons rfl ?_
 refine o_faddr' (ft := 3) (off := 0) rfl Try.underlying139 rfl tI3 (by decide) ?_
 try dsimp only [putL, setL, evL, getL]
 refine HL_cons rfl ?_
 refine o_load' rfl Try.underlying3 rfl (hH.hasv 0 rfl rfl) ?_
 try dsimp only [putL, setL, evL, getL]
 refine HL_cons rfl ?_
 refine o_faddr' (ft := 3) (off := 0) rfl Try.underlying139 rfl tI3 (by decide) ?_
 try dsimp only [putL, setL, evL, getL]
 refine HL_cons rfl ?_
 refine o_load' rfl Try.underlying3 rfl (hH.hasv 1 rfl rfl) ?_
 try dsimp only [putL, setL, evL, getL]
 refine HL_cons rfl ?_
 refine o_bin rfl rfl rfl ?_
 try dsimp only [putL, setL, evL, getL]
 refine HL_nil ?_
 refine hK5 _ _ ?_
 rcases Bool.eq_false_or_eq_true (p0_0 != p1_0) with hb6 | hb6
 ·replace H := iteT hb6 H
  refine HT_true (congrArg Value.bool hb6) ?_
  refine HT_seq_k ?_
  intro K7 hK7
  refine HT_region ?_
  refine HL_cons rfl ?_
  refine o_assign ?_
  try dsimp only [putL, setL, evL, getL]
  refine HL_nil ?_
  refine hK7 _ _ ?_
  refine HT_ret ?_
  exact hQr _ _ [.bool false] ⟨rfl, trivial⟩ (retH (fun r => laws_eqRe.post sb s F0 r _ _) (show some _ = some r from H) ⟨rfl, hH.sel [] (by decide)⟩)
 ·replace H := iteF hb6 H
  refine HT_false (congrArg Value.bool hb6) ?_
  refine HT_skip ?_
  refine hK4 _ _ ?_
  refine HT_seq_k ?_
  intro K8 hK8
  refine HT_seq_k ?_
  intro K9 hK9
  refine HT_region ?_
  refine HL_cons rfl ?_
  refine o_faddr' (ft := 24) (off := 1) rfl Try.underlying139 rfl tI24 (by decide) ?_
  try dsimp only [putL, setL, evL, getL]
  refine HL_cons rfl ?_
  refine o_load' rfl Try.underlying24 rfl (hH.hasv 0 rfl rfl) ?_
  try dsimp only [putL, setL, evL, getL]
  refine HL_cons rfl ?_
  refine o_faddr' (ft := 24) (off := 1) rfl Try.underlying139 rfl tI24 (by decide) ?_
  try dsimp only [putL, setL, evL, getL]
  refine HL_cons rfl ?_
  refine o_load' rfl Try.underlying24 rfl (hH.hasv 1 rfl rfl) ?_
  try dsimp only [putL, setL, evL, getL]
  replace H := headE H
  obtain ⟨u10, hu10, H⟩ := H
  refine HL_cons rfl ?_
  refine o_call (args := #[.slice A0_1p p0_1.length c0_1p, .slice A1_1p p1_1.length c1_1p]) Try.func63 rfl rfl rfl (laws_eqIntS.ok sb s3 no A0_1p c0_1p p0_1 A1_1p c1_1p p1_1 HRp0_1 HRp1_1 (Hp.own hH.bs) _ hu10) ?_
  rintro _ s10 ⟨rfl, hD⟩
  replace hH := hH.back0 hD (Up.refl _ _ _)
  clear hD
  dsimp only [addC, setC, rmC, selC, getC] at hH
  try dsimp only [putL, setL, evL, getL]
  refine HL_cons rfl ?_
  refine o_not rfl ?_
  try dsimp only [putL, setL, evL, getL]
  refine HL_nil ?_
  refine hK9 _ _ ?_
  rcases Bool.eq_false_or_eq_true (!u10) with hb11 | hb11
  ·replace H := iteT hb11 H
   refine HT_true (congrArg Value.bool hb11) ?_
   refine HT_seq_k ?_
   intro K12 hK12
   refine HT_region ?_
   refine HL_cons rfl ?_
   refine o_assign ?_
   try dsimp only [putL, setL, evL, getL]
   refine HL_nil ?_
   refine hK12 _ _ ?_
   refine HT_ret ?_
   exact hQr _ _ [.bool false] ⟨rfl, trivial⟩ (retH (fun r => laws_eqRe.post sb s F0 r _ _) (show some _ = some r from H) ⟨rfl, hH.sel [] (by decide)⟩)
  ·replace H := iteF hb11 H
   refine HT_false (congrArg Value.bool hb11) ?_
   refine HT_skip ?_
   refine hK8 _ _ ?_
   refine HT_seq_k ?_
   intro K13 hK13
   refine HT_region ?_
   refine HL_cons rfl ?_
   refine o_assign ?_
   try dsimp only [putL, setL, evL, getL]
   refine HL_nil ?_
   refine hK13 _ _ ?_
   refine HT_ret ?_
   exact hQr _ _ [.bool true] ⟨rfl, trivial⟩ (retH (fun r => laws_eqRe.post sb s F0 r _ _) (show some _ = some r from H) ⟨rfl, hH.sel [] (by decide)⟩)
def laws_eqReS.l1 (p0 : List ((Int) × (List (Int)))) (p1 : List ((Int) × (List (Int)))) : Nat → Int → Option (Lo Unit Bool)
 | 0, _ => none
 | kf + 1, x60 => if (decide (x60 < (p0.length : Int))) = true then ((rd? p0 x60).bind fun u80 => (rd? p1 x60).bind fun u82 => (laws_eqRe.f u80.1 u80.2 u82.1 u82.2).bind fun u84 => if (!u84) = true then ((some false).bind fun z => some (Lo.ret z)) else (laws_eqReS.l1 p0 p1 kf (IntKind.i64.wrap (x60 + 1)))) else (some (Lo.go ()))
def laws_eqReS.f (p0 : List ((Int) × (List (Int)))) (p1 : List ((Int) × (List (Int)))) : Option Bool := if ((p0.length : Int) != (p1.length : Int)) = true then (some false) else ((laws_eqReS.l1 p0 p1 ((((p0.length : Int)) - (0)).toNat + 2) 0).bind fun (o : Lo Unit Bool) => match o with | .go () => (some true) | .ret z => some z)
def laws_eqReS.post (sb s : St) (F0 : Fp) (r : Bool) : Value → St → Prop := fun v s' => v = .bool r ∧ Hp sb s F0 s' []
set_option maxRecDepth 100000 in
set_option maxHeartbeats 4000000 in
theorem laws_eqReS.ok (sb s : St) (F0 : Fp) (A0p : Option Addr) (c0p : Nat) (p0 : List ((Int) × (List (Int)))) (A1p : Option Addr) (c1p : Nat) (p1 : List ((Int) × (List (Int)))) (HRp0 : Rd KS139 sb A0p c0p p0) (HRp1 : Rd KS139 sb A1p c1p p1) (hH : Hp sb s F0 s []) (r : Bool) (H : laws_eqReS.f p0 p1 = some r) : GCall Try.prog 44 #[.slice A0p p0.length c0p, .slice A1p p1.length c1p] s (laws_eqReS.post sb s F0 r) := by
 refine GCall_ofk [.tmp 4] [.slice A0p p0.length c0p, .slice A1p p1.length c1p, undef, undef, undef, undef, undef, undef, undef, undef, undef, undef, undef, undef, undef, undef, undef, undef, undef, undef, undef, undef, undef, undef, undef, undef, undef] Try.func44 rfl rfl rfl ?_
 intro w Q hQr hQn hQp
 replace H := topE H
 unfold laws_eqReS.f at H
 refine HT_seq_k ?_
 intro K1 hK1
 refine HT_region ?_
 refine HL_cons rfl ?_
 refine o_assign ?_
 try dsimp only [putL, setL, evL, getL]
 refine HL_nil ?_
 refine hK1 _ _ ?_
 refine HT_seq_k ?_
 intro K2 hK2
 refine HT_seq_k ?_
 intro K3 hK3
 refine HT_region ?_
 refine HL_cons rfl ?_
 refine o_move ?_
 try dsimp only [putL, setL, evL, getL]
 refine HL_cons rfl ?_
 refine o_len rfl Try.underlying57 ?_
 try dsimp only [putL, setL, evL, getL]
 refine HL_cons rfl ?_
 refine o_move ?_
 try dsimp only [putL, setL, evL, getL]
 refine HL_cons rfl ?_
 refine o_len rfl Try.underlying57 ?_
 try dsimp only [putL, setL, evL, getL]
 refine HL_cons rfl ?_
 refine o_bin rfl rfl rfl ?_
 try dsimp only [putL, setL, evL, getL]
 refine HL_nil ?_
 refine hK3 _ _ ?_
 rcases Bool.eq_false_or_eq_true ((p0.length : Int) != (p1.length : Int)) with hb4 | hb4
 ·replace H := iteT hb4 H
  refine HT_true (congrArg Value.bool hb4) ?_
  refine HT_seq_k ?_
  intro K5 hK5
  refine HT_region ?_
  refine HL_cons rfl ?_
  refine o_assign ?_
  try dsimp only [putL, setL, evL, getL]
  refine HL_nil ?_
  refine hK5 _ _ ?_
  refine HT_ret ?_
  exact hQr _ _ [.bool false] ⟨rfl, trivial⟩ (retH (fun r => laws_eqReS.post sb s F0 r _ _) (show some _ = some r from H) ⟨rfl, hH⟩)
 ·replace H := iteF hb4 H
  refine HT_false (congrArg Value.bool hb4) ?_
  refine HT_skip ?_
  refine hK2 _ _ ?_
  refine HT_seq_k ?_
  intro K6 hK6
  refine HT_seq_k ?_
  intro K7 hK7
  refine HT_region ?_
  refine HL_cons rfl ?_
  refine o_assign ?_
  try dsimp only [putL, setL, evL, getL]
  refine HL_nil ?_
  refine hK7 _ _ ?_
  refine joinH H fun G8 hG8 H => ?_
  refine HT_toK (fun l' s' => G8 (.go ()) = some r ∧ l' = [.slice A0p p0.length c0p, .slice A1p p1.length c1p, undef, undef, getL l' 4, getL l' 5, .slice A0p p0.length c0p, .int .i64 (p0.length : Int), .slice A1p p1.length c1p, .int .i64 (p1.length : Int), .bool ((p0.length : Int) != (p1.length : Int)), getL l' 11, getL l' 12, getL l' 13, getL l' 14, getL l' 15, getL l' 16, getL l' 17, getL l' 18, getL l' 19, getL l' 20, getL l' 21, getL l' 22, getL l' 23, getL l' 24, getL l' 25, getL l' 26] ∧ Hp sb s F0 s' []) ?_ ?_
  ·intro K8 hK8
   refine HT_block ?_
   refine HT_loopK (fun kf l' s' => ∃ (x60 : Int), (laws_eqReS.l1 p0 p1 kf x60).bind G8 = some r ∧ l' = [.slice A0p p0.length c0p, .slice A1p p1.length c1p, undef, undef, getL l' 4, .int .i64 x60, .slice A0p p0.length c0p, .int .i64 (p0.length : Int), .slice A1p p1.length c1p, .int .i64 (p1.length : Int), .bool ((p0.length : Int) != (p1.length : Int)), getL l' 11, getL l' 12, getL l' 13, getL l' 14, getL l' 15, getL l' 16, getL l' 17, getL l' 18, getL l' 19, getL l' 20, getL l' 21, getL l' 22, getL l' 23, getL l' 24, getL l' 25, getL l' 26] ∧ Hp sb s F0 s' []) ((((p0.length : Int)) - (0)).toNat + 2) ⟨0, H, rfl, hH⟩ ?_
   rintro kf l' s74 ⟨x60, H, hl, hH⟩ K74 hK74
   generalize getL l' 4 = j4, getL l' 11 = j11, getL l' 12 = j12, getL l' 13 = j13, getL l' 14 = j14, getL l' 15 = j15, getL l' 16 = j16, getL l' 17 = j17, getL l' 18 = j18, getL l' 19 = j19, getL l' 20 = j20, getL l' 21 = j21, getL l' 22 = j22, getL l' 23 = j23, getL l' 24 = j24, getL l' 25 = j25, getL l' 26 = j26 at hl
   subst hl
   cases kf with
   | zero => simp [laws_eqReS.l1] at H
   | succ kf =>
    rw [laws_eqReS.l1] at H
    refine HT_seq_k ?_
    intro K75 hK75
    refine HT_seq_k ?_
    intro K76 hK76
    refine HT_region ?_
    refine HL_cons rfl ?_
    refine o_move ?_
    try dsimp only [putL, setL, evL, getL]
    refine HL_cons rfl ?_
    refine o_move ?_
    try dsimp only [putL, setL, evL, getL]
    refine HL_cons rfl ?_
    refine o_len rfl Try.underlying57 ?_
    try dsimp only [putL, setL, evL, getL]
    refine HL_cons rfl ?_
    refine o_bin rfl rfl rfl ?_
    try dsimp only [putL, setL, evL, getL]
    refine HL_nil ?_
    refine hK76 _ _ ?_
    rcases Bool.eq_false_or_eq_true (decide (x60 < (p0.length : Int))) with hb77 | hb77
    ·replace H := iteT hb77 H
     refine HT_true (congrArg Value.bool hb77) ?_
     refine HT_skip ?_
     refine hK75 _ _ ?_
     refine HT_seq_k ?_
     intro K78 hK78
     refine HT_block ?_
     refine HT_seq_k ?_
     intro K79 hK79
     refine HX_draw hMix ?_
     refine HX_lim (R := fun _ => True) (k := 0) (fun s' => Gro s74 s') 11 ?_
     have hR := Gro.refl s74
     have hH0 := hH
     refine HK_readP 0 (v := .slice A0p p0.length c0p) rfl (by kernel_rfl) (fun c l s h => hQp c l s h) rfl (fun s' K hK => ?_) rfl rfl (fun _ => hR) ?_
     ·refine o_move ?_
      exact hK
     try dsimp only [putL, setL, evL, getL]
     refine HK_readP 1 (v := .int .i64 x60) rfl (by kernel_rfl) (fun c l s h => hQp c l s h) rfl (fun s' K hK => ?_) rfl rfl (fun _ => hR) ?_
     ·refine o_move ?_
      exact hK
     try dsimp only [putL, setL, evL, getL]
     replace H := headE H
     obtain ⟨u80, hu80, H⟩ := H
     obtain ⟨b80, o80, cs80, hr80, hh80, hel80⟩ := Rd.elb HRp0 hu80
     obtain ⟨_, _, rfl, rfl, ⟨A81, c81, rfl, D81⟩⟩ := hr80
     refine HK_readP 2 (v := .pointer (some ⟨b80, o80, none⟩)) rfl (by kernel_rfl) (fun c l s h => hQp c l s h) rfl (fun s' K hK => ?_) rfl rfl (fun _ => hR) ?_
     ·refine hel80 s' rfl rfl Try.underlying57 tI139 ?_
      exact hK
     try dsimp only [putL, setL, evL, getL]
     refine HK_read 3 (v := .agg #[.int .i64 u80.1, .slice A81 u80.2.length c81]) rfl (by kernel_rfl) (fun c l s h => hQp c l s h) rfl (fun s' hR' K hK => ?_) rfl rfl hR ?_
     ·refine o_loads' [.int .i64 u80.1, .slice A81 u80.2.length c81] rfl Try.underlying139 rfl tI139 rfl (fun j v hj => (hh80 (hH0.bs.mono.trans hR'.mono)) j v hj) ?_
      exact hK
     try dsimp only [putL, setL, evL, getL]
     refine HK_readP 4 (v := .slice A1p p1.length c1p) rfl (by kernel_rfl) (fun c l s h => hQp c l s h) rfl (fun s' K hK => ?_) rfl rfl (fun _ => hR) ?_
     ·refine o_move ?_
      exact hK
     try dsimp only [putL, setL, evL, getL]
     refine HK_readP 5 (v := .int .i64 x60) rfl (by kernel_rfl) (fun c l s h => hQp c l s h) rfl (fun s' K hK => ?_) rfl rfl (fun _ => hR) ?_
     ·refine o_move ?_
      exact hK
     try dsimp only [putL, setL, evL, getL]
     replace H := headE H
     obtain ⟨u82, hu82, H⟩ := H
     obtain ⟨b82, o82, cs82, hr82, hh82, hel82⟩ := Rd.elb HRp1 hu82
     obtain ⟨_, _, rfl, rfl, ⟨A83, c83, rfl, D83⟩⟩ := hr82
     refine HK_readP 6 (v := .pointer (some ⟨b82, o82, none⟩)) rfl (by kernel_rfl) (fun c l s h => hQp c l s h) rfl (fun s' K hK => ?_) rfl rfl (fun _ => hR) ?_
     ·refine hel82 s' rfl rfl Try.underlying57 tI139 ?_
      exact hK
     try dsimp only [putL, setL, evL, getL]
     refine HK_read 7 (v := .agg #[.int .i64 u82.1, .slice A83 u82.2.length c83]) rfl (by kernel_rfl) (fun c l s h => hQp c l s h) rfl (fun s' hR' K hK => ?_) rfl rfl hR ?_
     ·refine o_loads' [.int .i64 u82.1, .slice A83 u82.2.length c83] rfl Try.underlying139 rfl tI139 rfl (fun j v hj => (hh82 (hH0.bs.mono.trans hR'.mono)) j v hj) ?_
      exact hK
     try dsimp only [putL, setL, evL, getL]
     refine HK_more [8] (by kernel_rfl) rfl (fun _ => hR) ⟨⟨_, rfl, Or.inl ⟨rfl, ?_⟩⟩, trivial⟩
     replace H := headE H
     obtain ⟨u84, hu84, H⟩ := H
     skip
     refine o_call (args := #[.agg #[.int .i64 u80.1, .slice A81 u80.2.length c81], .agg #[.int .i64 u82.1, .slice A83 u82.2.length c83]]) Try.func138 rfl rfl rfl (laws_eqRe.ok sb s74 no u80.1 A81 c81 u80.2 u82.1 A83 c83 u82.2 D81 D83 (Hp.own hH.bs) _ hu84) ?_
     rintro _ s84 ⟨rfl, hD⟩
     replace hR := hR.trans hD.gro
     replace hH := hH.back0 hD (Up.refl _ _ _)
     clear hD
     dsimp only [addC, setC, rmC, selC, getC] at hH
     try dsimp only [putL, setL, evL, getL]
     refine HK_readP 9 (v := .bool (!u84)) rfl (by kernel_rfl) (fun c l s h => hQp c l s h) rfl (fun s' K hK => ?_) rfl rfl (fun _ => hR) ?_
     ·refine o_not rfl ?_
      exact hK
     try dsimp only [putL, setL, evL, getL]
     refine HK_done (fun _ => hR) (by kernel_rfl) ?_
     refine hK79 _ _ ?_
     rcases Bool.eq_false_or_eq_true (!u84) with hb85 | hb85
     ·replace H := iteT hb85 H
      refine HT_true (congrArg Value.bool hb85) ?_
      refine HT_seq_k ?_
      intro K86 hK86
      refine HT_region ?_
      refine HL_cons rfl ?_
      refine o_assign ?_
      try dsimp only [putL, setL, evL, getL]
      refine HL_nil ?_
      refine hK86 _ _ ?_
      refine HT_ret ?_
      replace H := escH (fun z hz => hG8 _ hz) H
      exact hQr _ _ [.bool false] ⟨rfl, trivial⟩ (retH (fun r => laws_eqReS.post sb s F0 r _ _) (show some _ = some r from H) ⟨rfl, hH⟩)
     ·replace H := iteF hb85 H
      refine HT_false (congrArg Value.bool hb85) ?_
      refine HT_skip ?_
      refine hK78 _ _ ?_
      refine HT_region ?_
      refine HL_cons rfl ?_
      refine o_move ?_
      try dsimp only [putL, setL, evL, getL]
      refine HL_cons rfl ?_
      refine o_bin rfl rfl rfl ?_
      try dsimp only [putL, setL, evL, getL]
      refine HL_cons rfl ?_
      refine o_assign ?_
      try dsimp only [putL, setL, evL, getL]
      refine HL_nil ?_
      exact hK74 _ _ ⟨kf, Nat.lt_succ_self kf, IntKind.i64.wrap (x60 + 1), H, rfl, hH⟩
    ·replace H := iteF hb77 H
     refine HT_false (congrArg Value.bool hb77) ?_
     refine HT_exit ?_
     exact hK8 _ _ ⟨H, rfl, hH⟩
  ·rintro l' s87 ⟨H, hl, hH⟩
   generalize getL l' 4 = j4, getL l' 5 = j5, getL l' 11 = j11, getL l' 12 = j12, getL l' 13 = j13, getL l' 14 = j14, getL l' 15 = j15, getL l' 16 = j16, getL l' 17 = j17, getL l' 18 = j18, getL l' 19 = j19, getL l' 20 = j20, getL l' 21 = j21, getL l' 22 = j22, getL l' 23 = j23, getL l' 24 = j24, getL l' 25 = j25, getL l' 26 = j26 at hl
   subst hl
   replace H := hG8 _ H
   try dsimp only at H
   refine hK6 _ _ ?_
   refine HT_seq_k ?_
   intro K88 hK88
   refine HT_region ?_
   refine HL_cons rfl ?_
   refine o_assign ?_
   try dsimp only [putL, setL, evL, getL]
   refine HL_nil ?_
   refine hK88 _ _ ?_
   refine HT_ret ?_
   exact hQr _ _ [.bool true] ⟨rfl, trivial⟩ (retH (fun r => laws_eqReS.post sb s F0 r _ _) (show some _ = some r from H) ⟨rfl, hH⟩)
def laws_FnExactCountParses.f (p0 : List ((Int) × (List (Int)))) (p1 : List (Int)) : Option Bool := if (decide ((p1.length : Int) > 1048576)) = true then (some true) else ((laws_szReS.f p0 1048576).bind fun u8 => if (decide (u8 < 0)) = true then (some true) else ((laws_toReS.f p0).bind fun u14 => (laws_toIntS.f p1).bind fun u16 => (spec_CountParses.f u14 u16).bind fun u18 => (laws_toReS.f p0).bind fun u20 => (laws_toIntS.f p1).bind fun u23 => (impl_CountParses.f u20 u23).bind fun u26 => (if (u26.1 != u18.1) = true then (some true) else (some (u26.2 != u18.2))).bind fun (o : Bool) => match o with | x38 => (if x38 = true then (some false) else ((laws_toReS.f p0).bind fun u45 => (laws_eqReS.f u20 u45).bind fun u47 => if (!u47) = true then (some false) else ((laws_toIntS.f p1).bind fun u52 => (laws_eqIntS.f u23 u52).bind fun u54 => if (!u54) = true then (some false) else (some true))))))
def laws_FnExactCountParses.post (sb s : St) (F0 : Fp) (r : Bool) : Value → St → Prop := fun v s' => v = .bool r ∧ Hp sb s F0 s' []
set_option maxRecDepth 100000 in
set_option maxHeartbeats 4000000 in
theorem laws_FnExactCountParses.ok (sb s : St) (F0 : Fp) (A0p : Option Addr) (c0p : Nat) (p0 : List ((Int) × (List (Int)))) (A1p : Option Addr) (c1p : Nat) (p1 : List (Int)) (HRp0 : Rd KS135 sb A0p c0p p0) (HRp1 : Rd KI sb A1p c1p p1) (hH : Hp sb s F0 s []) (r : Bool) (H : laws_FnExactCountParses.f p0 p1 = some r) : GCall Try.prog 7 #[.slice A0p p0.length c0p, .slice A1p p1.length c1p] s (laws_FnExactCountParses.post sb s F0 r) := by
 refine GCall_ofk [.tmp 4] [.slice A0p p0.length c0p, .slice A1p p1.length c1p, undef, undef, undef, undef, undef, undef, undef, undef, undef, undef, undef, undef, undef, undef, undef, undef, undef, undef, undef, undef, undef, undef, undef, undef, undef, undef, undef, undef, undef, undef, undef, undef, undef, undef, undef, undef, undef, undef, undef, undef, undef, undef, undef, undef, undef, undef, undef, undef, undef, undef, undef, undef, undef, undef] Try.func7 rfl rfl rfl ?_
 intro w Q hQr hQn hQp
 replace H := topE H
 unfold laws_FnExactCountParses.f at H
 refine HT_seq_k ?_
 intro K1 hK1
 refine HT_region ?_
 refine HL_cons rfl ?_
 refine o_assign ?_
 try dsimp only [putL, setL, evL, getL]
 refine HL_nil ?_
 refine hK1 _ _ ?_
 refine HT_seq_k ?_
 intro K2 hK2
 refine HT_seq_k ?_
 intro K3 hK3
 refine HT_region ?_
 refine HL_cons rfl ?_
 refine o_move ?_
 try dsimp only [putL, setL, evL, getL]
 refine HL_cons rfl ?_
 refine o_len rfl Try.underlying24 ?_
 try dsimp only [putL, setL, evL, getL]
 refine HL_cons rfl ?_
 refine o_bin rfl rfl rfl ?_
 try dsimp only [putL, setL, evL, getL]
 refine HL_nil ?_
 refine hK3 _ _ ?_
 rcases Bool.eq_false_or_eq_true (decide ((p1.length : Int) > 1048576)) with hb4 | hb4
 ·replace H := iteT hb4 H
  refine HT_true (congrArg Value.bool hb4) ?_
  refine HT_seq_k ?_
  intro K5 hK5
  refine HT_region ?_
  refine HL_cons rfl ?_
  refine o_assign ?_
  try dsimp only [putL, setL, evL, getL]
  refine HL_nil ?_
  refine hK5 _ _ ?_
  refine HT_ret ?_
  exact hQr _ _ [.bool true] ⟨rfl, trivial⟩ (retH (fun r => laws_FnExactCountParses.post sb s F0 r _ _) (show some _ = some r from H) ⟨rfl, hH⟩)
 ·replace H := iteF hb4 H
  refine HT_false (congrArg Value.bool hb4) ?_
  refine HT_skip ?_
  refine hK2 _ _ ?_
  refine HT_seq_k ?_
  intro K6 hK6
  refine HT_region ?_
  refine HL_cons rfl ?_
  refine o_assign ?_
  try dsimp only [putL, setL, evL, getL]
  refine HL_nil ?_
  refine hK6 _ _ ?_
  refine HT_seq_k ?_
  intro K7 hK7
  refine HT_region ?_
  refine HL_cons rfl ?_
  refine o_move ?_
  try dsimp only [putL, setL, evL, getL]
  refine HL_cons rfl ?_
  refine o_move ?_
  try dsimp only [putL, setL, evL, getL]
  replace H := headE H
  obtain ⟨u8, hu8, H⟩ := H
  refine HL_cons rfl ?_
  refine o_call (args := #[.slice A0p p0.length c0p, .int .i64 1048576]) Try.func37 rfl rfl rfl (laws_szReS.ok sb s no A0p c0p p0 1048576 HRp0 (Hp.own hH.bs) _ hu8) ?_
  rintro _ s8 ⟨rfl, hD⟩
  replace hH := hH.back0 hD (Up.refl _ _ _)
  clear hD
  dsimp only [addC, setC, rmC, selC, getC] at hH
  try dsimp only [putL, setL, evL, getL]
  refine HL_cons rfl ?_
  refine o_assign ?_
  try dsimp only [putL, setL, evL, getL]
  refine HL_nil ?_
  refine hK7 _ _ ?_
  refine HT_seq_k ?_
  intro K9 hK9
  refine HT_seq_k ?_
  intro K10 hK10
  refine HT_region ?_
  refine HL_cons rfl ?_
  refine o_move ?_
  try dsimp only [putL, setL, evL, getL]
  refine HL_cons rfl ?_
  refine o_bin rfl rfl rfl ?_
  try dsimp only [putL, setL, evL, getL]
  refine HL_nil ?_
  refine hK10 _ _ ?_
  rcases Bool.eq_false_or_eq_true (decide (u8 < 0)) with hb11 | hb11
  ·replace H := iteT hb11 H
   refine HT_true (congrArg Value.bool hb11) ?_
   refine HT_seq_k ?_
   intro K12 hK12
   refine HT_region ?_
   refine HL_cons rfl ?_
   refine o_assign ?_
   try dsimp only [putL, setL, evL, getL]
   refine HL_nil ?_
   refine hK12 _ _ ?_
   refine HT_ret ?_
   exact hQr _ _ [.bool true] ⟨rfl, trivial⟩ (retH (fun r => laws_FnExactCountParses.post sb s F0 r _ _) (show some _ = some r from H) ⟨rfl, hH⟩)
  ·replace H := iteF hb11 H
   refine HT_false (congrArg Value.bool hb11) ?_
   refine HT_skip ?_
   refine hK9 _ _ ?_
   refine HT_seq_k ?_
   intro K13 hK13
   refine HT_region ?_
   refine HL_cons rfl ?_
   refine o_move ?_
   try dsimp only [putL, setL, evL, getL]
   replace H := headE H
   obtain ⟨u14, hu14, H⟩ := H
   refine HL_cons rfl ?_
   refine o_call (args := #[.slice A0p p0.length c0p]) Try.func40 rfl rfl rfl (laws_toReS.ok sb s8 no A0p c0p p0 HRp0 (Hp.own hH.bs) _ hu14) ?_
   rintro _ s14 ⟨A15, c15, rfl, hD⟩
   replace hH := hH.back0 hD (Up.refl _ _ _)
   clear hD
   dsimp only [addC, setC, rmC, selC, getC] at hH
   try dsimp only [putL, setL, evL, getL]
   refine HL_cons rfl ?_
   refine o_move ?_
   try dsimp only [putL, setL, evL, getL]
   replace H := headE H
   obtain ⟨u16, hu16, H⟩ := H
   refine HL_cons rfl ?_
   refine o_call (args := #[.slice A1p p1.length c1p]) Try.func61 rfl rfl rfl (laws_toIntS.ok sb s14 no A1p c1p p1 HRp1 (Hp.own hH.bs) _ hu16) ?_
   rintro _ s16 ⟨A17, c17, rfl, hD⟩
   replace hH := hH.back0 hD (Up.refl _ _ _)
   clear hD
   dsimp only [addC, setC, rmC, selC, getC] at hH
   try dsimp only [putL, setL, evL, getL]
   replace H := headE H
   obtain ⟨u18, hu18, H⟩ := H
   refine HL_cons rfl ?_
   refine o_call (args := #[.slice A15 u14.length c15, .slice A17 u16.length c17]) Try.func60 rfl rfl rfl (spec_CountParses.ok s16 s16 no A15 c15 u14 A17 c17 u16 (hH.rd 0 rfl) (hH.rd 1 rfl) (Hp.own (Bs.refl s16)) _ hu18) ?_
   rintro _ s18 ⟨rfl, hD⟩
   replace hH := hH.back0T hD
   clear hD
   dsimp only [addC, setC, rmC, selC, getC] at hH
   try dsimp only [putL, setL, evL, getL]
   refine HL_cons rfl ?_
   refine o_move ?_
   try dsimp only [putL, setL, evL, getL]
   refine HL_cons rfl ?_
   refine o_extract rfl rfl ?_
   try dsimp only [putL, setL, evL, getL]
   refine HL_cons rfl ?_
   refine o_extract rfl rfl ?_
   try dsimp only [putL, setL, evL, getL]
   refine HL_cons rfl ?_
   refine o_assign ?_
   try dsimp only [putL, setL, evL, getL]
   refine HL_cons rfl ?_
   refine o_assign ?_
   try dsimp only [putL, setL, evL, getL]
   refine HL_nil ?_
   refine hK13 _ _ ?_
   refine HT_seq_k ?_
   intro K19 hK19
   refine HT_region ?_
   refine HL_cons rfl ?_
   refine o_move ?_
   try dsimp only [putL, setL, evL, getL]
   replace H := headE H
   obtain ⟨u20, hu20, H⟩ := H
   refine HL_cons rfl ?_
   refine o_call (args := #[.slice A0p p0.length c0p]) Try.func40 rfl rfl rfl (laws_toReS.ok sb s18 no A0p c0p p0 HRp0 (Hp.own hH.bs) _ hu20) ?_
   rintro _ s20 ⟨A21, c21, rfl, hD⟩
   replace hH := hH.back0 hD (Up.refl _ _ _)
   clear hD
   dsimp only [addC, setC, rmC, selC, getC] at hH
   try dsimp only [putL, setL, evL, getL]
   refine HL_cons rfl ?_
   refine o_assign ?_
   try dsimp only [putL, setL, evL, getL]
   refine HL_nil ?_
   refine hK19 _ _ ?_
   refine HT_seq_k ?_
   intro K22 hK22
   refine HT_region ?_
   refine HL_cons rfl ?_
   refine o_move ?_
   try dsimp only [putL, setL, evL, getL]
   replace H := headE H
   obtain ⟨u23, hu23, H⟩ := H
   refine HL_cons rfl ?_
   refine o_call (args := #[.slice A1p p1.length c1p]) Try.func61 rfl rfl rfl (laws_toIntS.ok sb s20 no A1p c1p p1 HRp1 (Hp.own hH.bs) _ hu23) ?_
   rintro _ s23 ⟨A24, c24, rfl, hD⟩
   replace hH := hH.back0 hD (Up.refl _ _ _)
   clear hD
   dsimp only [addC, setC, rmC, selC, getC] at hH
   try dsimp only [putL, setL, evL, getL]
   refine HL_cons rfl ?_
   refine o_assign ?_
   try dsimp only [putL, setL, evL, getL]
   refine HL_nil ?_
   refine hK22 _ _ ?_
   refine HT_seq_k ?_
   intro K25 hK25
   refine HT_region ?_
   refine HL_cons rfl ?_
   refine o_move ?_
   try dsimp only [putL, setL, evL, getL]
   refine HL_cons rfl ?_
   refine o_move ?_
   try dsimp only [putL, setL, evL, getL]
   replace H := headE H
   obtain ⟨u26, hu26, H⟩ := H
   refine HL_cons rfl ?_
   refine o_call (args := #[.slice A21 u20.length c21, .slice A24 u23.length c24]) Try.func62 rfl rfl rfl (impl_CountParses.ok s23 s23 no A21 c21 u20 A24 c24 u23 (hH.rd 2 rfl) (hH.rd 3 rfl) (Hp.own (Bs.refl s23)) _ hu26) ?_
   rintro _ s26 ⟨rfl, hD⟩
   replace hH := hH.back0T hD
   clear hD
   dsimp only [addC, setC, rmC, selC, getC] at hH
   try dsimp only [putL, setL, evL, getL]
   refine HL_cons rfl ?_
   refine o_move ?_
   try dsimp only [putL, setL, evL, getL]
   refine HL_cons rfl ?_
   refine o_extract rfl rfl ?_
   try dsimp only [putL, setL, evL, getL]
   refine HL_cons rfl ?_
   refine o_extract rfl rfl ?_
   try dsimp only [putL, setL, evL, getL]
   refine HL_cons rfl ?_
   refine o_assign ?_
   try dsimp only [putL, setL, evL, getL]
   refine HL_cons rfl ?_
   refine o_assign ?_
   try dsimp only [putL, setL, evL, getL]
   refine HL_nil ?_
   refine hK25 _ _ ?_
   refine HT_seq_k ?_
   intro K35 hK35
   refine joinH H fun G36 hG36 H => ?_
   refine HT_joinK (fun l' s' => ∃ (x38 : Bool), G36 x38 = some r ∧ l' = [.slice A0p p0.length c0p, .slice A1p p1.length c1p, undef, undef, .bool false, .int .i64 u8, .int .i64 u18.1, .bool u18.2, .slice A21 u20.length c21, .slice A24 u23.length c24, .int .i64 u26.1, .bool u26.2, .slice A1p p1.length c1p, .int .i64 (p1.length : Int), .bool (decide ((p1.length : Int) > 1048576)), .slice A0p p0.length c0p, .int .i64 1048576, .int .i64 u8, .int .i64 u8, .bool (decide (u8 < 0)), .tuple #[.int .i64 u18.1, .bool u18.2], .slice A0p p0.length c0p, .slice A15 u14.length c15, .slice A1p p1.length c1p, .slice A17 u16.length c17, .tuple #[.int .i64 u18.1, .bool u18.2], .int .i64 u18.1, .bool u18.2, .slice A0p p0.length c0p, .slice A21 u20.length c21, .slice A1p p1.length c1p, .slice A24 u23.length c24, .tuple #[.int .i64 u26.1, .bool u26.2], .slice A21 u20.length c21, .slice A24 u23.length c24, .tuple #[.int .i64 u26.1, .bool u26.2], .int .i64 u26.1, .bool u26.2, getL l' 38, getL l' 39, getL l' 40, getL l' 41, getL l' 42, getL l' 43, getL l' 44, .bool x38, undef, undef, undef, undef, undef, undef, undef, undef, undef, undef] ∧ Hp sb s F0 s' [Ck.ol OS139 139 A21 c21 u20, Ck.ol OI 3 A24 c24 u23]) ?_ ?_
   ·intro K36 hK36
    refine HT_region ?_
    refine HL_cons rfl ?_
    refine o_move ?_
    try dsimp only [putL, setL, evL, getL]
    refine HL_cons rfl ?_
    refine o_move ?_
    try dsimp only [putL, setL, evL, getL]
    refine HL_cons rfl ?_
    refine o_bin rfl rfl rfl ?_
    try dsimp only [putL, setL, evL, getL]
    refine HL_cons rfl ?_
    refine o_move ?_
    try dsimp only [putL, setL, evL, getL]
    rcases Bool.eq_false_or_eq_true (u26.1 != u18.1) with hb39 | hb39
    ·replace H := iteT hb39 H
     refine HL_skip ?_ ?_
     ·exact wantF (j := 3) (b := false) (t := 41) (c := u26.1 != u18.1) rfl rfl rfl rfl hb39
     try dsimp only [putL, setL, evL, getL]
     refine HL_skip ?_ ?_
     ·exact wantF (j := 3) (b := false) (t := 41) (c := u26.1 != u18.1) rfl rfl rfl rfl hb39
     try dsimp only [putL, setL, evL, getL]
     refine HL_skip ?_ ?_
     ·exact wantF (j := 3) (b := false) (t := 41) (c := u26.1 != u18.1) rfl rfl rfl rfl hb39
     try dsimp only [putL, setL, evL, getL]
     refine HL_cons rfl ?_
     refine o_pickT rfl hb39 ?_
     try dsimp only [putL, setL, evL, getL]
     refine HL_nil ?_
     exact hK36 _ _ ⟨true, H, rfl, hH.sel [2, 3] (by decide)⟩
    ·replace H := iteF hb39 H
     refine HL_want ?_ ?_
     ·exact wantT (j := 3) (b := false) (t := 41) (c := u26.1 != u18.1) rfl rfl rfl rfl hb39
     refine o_move ?_
     try dsimp only [putL, setL, evL, getL]
     refine HL_want ?_ ?_
     ·exact wantT (j := 3) (b := false) (t := 41) (c := u26.1 != u18.1) rfl rfl rfl rfl hb39
     refine o_move ?_
     try dsimp only [putL, setL, evL, getL]
     refine HL_want ?_ ?_
     ·exact wantT (j := 3) (b := false) (t := 41) (c := u26.1 != u18.1) rfl rfl rfl rfl hb39
     refine o_neb rfl rfl Try.underlying4 ?_
     try dsimp only [putL, setL, evL, getL]
     refine HL_cons rfl ?_
     refine o_pickF rfl hb39 ?_
     try dsimp only [putL, setL, evL, getL]
     refine HL_nil ?_
     exact hK36 _ _ ⟨u26.2 != u18.2, H, rfl, hH.sel [2, 3] (by decide)⟩
   ·rintro l' s40 ⟨x38, H, hl, hH⟩
    generalize getL l' 38 = j38, getL l' 39 = j39, getL l' 40 = j40, getL l' 41 = j41, getL l' 42 = j42, getL l' 43 = j43, getL l' 44 = j44 at hl
    subst hl
    replace H := hG36 _ H
    try dsimp only at H
    rcases Bool.eq_false_or_eq_true x38 with hb41 | hb41
    ·replace H := iteT hb41 H
     refine HT_true (congrArg Value.bool hb41) ?_
     refine HT_seq_k ?_
     intro K42 hK42
     refine HT_region ?_
     refine HL_cons rfl ?_
     refine o_assign ?_
     try dsimp only [putL, setL, evL, getL]
     refine HL_nil ?_
     refine hK42 _ _ ?_
     refine HT_ret ?_
     exact hQr _ _ [.bool false] ⟨rfl, trivial⟩ (retH (fun r => laws_FnExactCountParses.post sb s F0 r _ _) (show some _ = some r from H) ⟨rfl, hH.sel [] (by decide)⟩)
    ·replace H := iteF hb41 H
     refine HT_false (congrArg Value.bool hb41) ?_
     refine HT_skip ?_
     refine hK35 _ _ ?_
     refine HT_seq_k ?_
     intro K43 hK43
     refine HT_seq_k ?_
     intro K44 hK44
     refine HT_region ?_
     refine HL_cons rfl ?_
     refine o_move ?_
     try dsimp only [putL, setL, evL, getL]
     refine HL_cons rfl ?_
     refine o_move ?_
     try dsimp only [putL, setL, evL, getL]
     replace H := headE H
     obtain ⟨u45, hu45, H⟩ := H
     refine HL_cons rfl ?_
     refine o_call (args := #[.slice A0p p0.length c0p]) Try.func40 rfl rfl rfl (laws_toReS.ok sb s40 no A0p c0p p0 HRp0 (Hp.own hH.bs) _ hu45) ?_
     rintro _ s45 ⟨A46, c46, rfl, hD⟩
     replace hH := hH.back0 hD (Up.refl _ _ _)
     clear hD
     dsimp only [addC, setC, rmC, selC, getC] at hH
     try dsimp only [putL, setL, evL, getL]
     replace H := headE H
     obtain ⟨u47, hu47, H⟩ := H
     refine HL_cons rfl ?_
     refine o_call (args := #[.slice A21 u20.length c21, .slice A46 u45.length c46]) Try.func44 rfl rfl rfl (laws_eqReS.ok s45 s45 no A21 c21 u20 A46 c46 u45 (hH.rd 0 rfl) (hH.rd 2 rfl) (Hp.own (Bs.refl s45)) _ hu47) ?_
     rintro _ s47 ⟨rfl, hD⟩
     replace hH := hH.back0T hD
     clear hD
     dsimp only [addC, setC, rmC, selC, getC] at hH
     try dsimp only [putL, setL, evL, getL]
     refine HL_cons rfl ?_
     refine o_not rfl ?_
     try dsimp only [putL, setL, evL, getL]
     refine HL_nil ?_
     refine hK44 _ _ ?_
     rcases Bool.eq_false_or_eq_true (!u47) with hb48 | hb48
     ·replace H := iteT hb48 H
      refine HT_true (congrArg Value.bool hb48) ?_
      refine HT_seq_k ?_
      intro K49 hK49
      refine HT_region ?_
      refine HL_cons rfl ?_
      refine o_assign ?_
      try dsimp only [putL, setL, evL, getL]
      refine HL_nil ?_
      refine hK49 _ _ ?_
      refine HT_ret ?_
      exact hQr _ _ [.bool false] ⟨rfl, trivial⟩ (retH (fun r => laws_FnExactCountParses.post sb s F0 r _ _) (show some _ = some r from H) ⟨rfl, hH.sel [] (by decide)⟩)
     ·replace H := iteF hb48 H
      refine HT_false (congrArg Value.bool hb48) ?_
      refine HT_skip ?_
      refine hK43 _ _ ?_
      refine HT_seq_k ?_
      intro K50 hK50
      refine HT_seq_k ?_
      intro K51 hK51
      refine HT_region ?_
      refine HL_cons rfl ?_
      refine o_move ?_
      try dsimp only [putL, setL, evL, getL]
      refine HL_cons rfl ?_
      refine o_move ?_
      try dsimp only [putL, setL, evL, getL]
      replace H := headE H
      obtain ⟨u52, hu52, H⟩ := H
      refine HL_cons rfl ?_
      refine o_call (args := #[.slice A1p p1.length c1p]) Try.func61 rfl rfl rfl (laws_toIntS.ok sb s47 no A1p c1p p1 HRp1 (Hp.own hH.bs) _ hu52) ?_
      rintro _ s52 ⟨A53, c53, rfl, hD⟩
      replace hH := hH.back0 hD (Up.refl _ _ _)
      clear hD
      dsimp only [addC, setC, rmC, selC, getC] at hH
      try dsimp only [putL, setL, evL, getL]
      replace H := headE H
      obtain ⟨u54, hu54, H⟩ := H
      refine HL_cons rfl ?_
      refine o_call (args := #[.slice A24 u23.length c24, .slice A53 u52.length c53]) Try.func63 rfl rfl rfl (laws_eqIntS.ok s52 s52 no A24 c24 u23 A53 c53 u52 (hH.rd 1 rfl) (hH.rd 3 rfl) (Hp.own (Bs.refl s52)) _ hu54) ?_
      rintro _ s54 ⟨rfl, hD⟩
      replace hH := hH.back0T hD
      clear hD
      dsimp only [addC, setC, rmC, selC, getC] at hH
      try dsimp only [putL, setL, evL, getL]
      refine HL_cons rfl ?_
      refine o_not rfl ?_
      try dsimp only [putL, setL, evL, getL]
      refine HL_nil ?_
      refine hK51 _ _ ?_
      rcases Bool.eq_false_or_eq_true (!u54) with hb55 | hb55
      ·replace H := iteT hb55 H
       refine HT_true (congrArg Value.bool hb55) ?_
       refine HT_seq_k ?_
       intro K56 hK56
       refine HT_region ?_
       refine HL_cons rfl ?_
       refine o_assign ?_
       try dsimp only [putL, setL, evL, getL]
       refine HL_nil ?_
       refine hK56 _ _ ?_
       refine HT_ret ?_
       exact hQr _ _ [.bool false] ⟨rfl, trivial⟩ (retH (fun r => laws_FnExactCountParses.post sb s F0 r _ _) (show some _ = some r from H) ⟨rfl, hH.sel [] (by decide)⟩)
      ·replace H := iteF hb55 H
       refine HT_false (congrArg Value.bool hb55) ?_
       refine HT_skip ?_
       refine hK50 _ _ ?_
       refine HT_seq_k ?_
       intro K57 hK57
       refine HT_region ?_
       refine HL_cons rfl ?_
       refine o_assign ?_
       try dsimp only [putL, setL, evL, getL]
       refine HL_nil ?_
       refine hK57 _ _ ?_
       refine HT_ret ?_
       exact hQr _ _ [.bool true] ⟨rfl, trivial⟩ (retH (fun r => laws_FnExactCountParses.post sb s F0 r _ _) (show some _ = some r from H) ⟨rfl, hH.sel [] (by decide)⟩)
end Go.Proofs.Ytkieinlcpkpcjaa
