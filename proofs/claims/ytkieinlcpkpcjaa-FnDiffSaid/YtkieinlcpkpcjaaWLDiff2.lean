/- The functions that the law reaches, as plain functions, each with its contract: printed by a program of the prover's. No conditions: lemmas. -/
import Derived.Test.YtkieinlcpkpcjaaWLDiff1
set_option linter.unusedVariables false
set_option linter.unusedSimpArgs false
namespace Go.Proofs.Ytkieinlcpkpcjaa
open Go Go.Proofs.GL
def spec_l15Diff.l1 (p0 : List (Int)) (p1 : List (Int)) (u3 : (List (List (Int)))) : Nat → (List ((Int) × (List (Int)))) → Int → Int → Option (List ((Int) × (List (Int))))
  | 0, _, _, _ => none
  | kf + 1, x258, x259, x260 => (if (decide (x259 < (p0.length : Int))) = true then (some true) else (some (decide (x260 < (p1.length : Int))))).bind fun (o : Bool) => match o with | x334 => (if x334 = true then ((if (decide (x259 < (p0.length : Int))) = true then (if (decide (x260 < (p1.length : Int))) = true then ((rd? p0 x259).bind fun u346 => (rd? p1 x260).bind fun u347 => some (u346 == u347)) else (some false)) else (some false)).bind fun (o : Bool) => match o with | x343 => (if x343 = true then ((rd? p0 x259).bind fun u351 => (spec_l15Add.f x258 1 u351).bind fun u352 => spec_l15Diff.l1 p0 p1 u3 kf u352 (IntKind.i64.wrap (x259 + 1)) (IntKind.i64.wrap (x260 + 1))) else ((if (decide (x259 < (p0.length : Int))) = true then (if (x260 == (p1.length : Int)) = true then (some true) else ((rd? u3 (IntKind.i64.wrap (x259 + 1))).bind fun u367 => (rd? u367 x260).bind fun u369 => (rd? u3 x259).bind fun u370 => (rd? u370 x260).bind fun u372 => some (u369 == u372))) else (some false)).bind fun (o : Bool) => match o with | x364 => (if x364 = true then ((rd? p0 x259).bind fun u376 => (spec_l15Add.f x258 2 u376).bind fun u377 => spec_l15Diff.l1 p0 p1 u3 kf u377 (IntKind.i64.wrap (x259 + 1)) x260) else ((rd? p1 x260).bind fun u380 => (spec_l15Add.f x258 3 u380).bind fun u381 => spec_l15Diff.l1 p0 p1 u3 kf u381 x259 (IntKind.i64.wrap (x260 + 1))))))) else (some x258))
def spec_l15Diff.f (p0 : List (Int)) (p1 : List (Int)) : Option (List ((Int) × (List (Int)))) := (spec_l15Common.f p0 p1).bind fun u3 => (spec_l15Diff.l1 p0 p1 u3 (p0.length + p1.length + 2) [] 0 0).bind fun (o : (List ((Int) × (List (Int))))) => match o with | x195 => (some x195)
def spec_l15Diff.post (sb s : St) (F0 : Fp) (r : (List ((Int) × (List (Int))))) : Value → St → Prop := fun v s' => ∃ (A0 : Option Addr) (c0 : Nat), v = .slice A0 r.length c0 ∧ Hp sb s F0 s' [Ck.ol OS170 170 A0 c0 r]
set_option maxRecDepth 100000 in
set_option maxHeartbeats 4000000 in
theorem spec_l15Diff.ok (sb s : St) (F0 : Fp) (A0p : Option Addr) (c0p : Nat) (p0 : List (Int)) (A1p : Option Addr) (c1p : Nat) (p1 : List (Int)) (HRp0 : Rd KI sb A0p c0p p0) (HRp1 : Rd KI sb A1p c1p p1) (hH : Hp sb s F0 s []) (r : (List ((Int) × (List (Int))))) (H : spec_l15Diff.f p0 p1 = some r) : GCall Try.prog 159 #[.slice A0p p0.length c0p, .slice A1p p1.length c1p] s (spec_l15Diff.post sb s F0 r) := by
  refine GCall_ofk [.tmp 4] [.slice A0p p0.length c0p, .slice A1p p1.length c1p, undef, undef, undef, undef, undef, undef, undef, undef, undef, undef, undef, undef, undef, undef, undef, undef, undef, undef, undef, undef, undef, undef, undef, undef, undef, undef, undef, undef, undef, undef, undef, undef, undef, undef, undef, undef, undef, undef, undef, undef, undef, undef, undef, undef, undef, undef, undef, undef, undef, undef, undef, undef, undef, undef, undef, undef, undef, undef, undef, undef, undef, undef, undef, undef, undef, undef, undef, undef, undef, undef, undef, undef, undef, undef, undef, undef, undef, undef, undef, undef, undef, undef, undef, undef, undef, undef, undef, undef, undef, undef, undef, undef, undef, undef, undef, undef, undef, undef] Try.func159 rfl rfl rfl ?_
  intro w Q hQr hQn hQp
  replace H := topE H
  unfold spec_l15Diff.f at H
  refine HT_seq_k ?_
  intro K1 hK1
  refine HT_region ?_
  refine HL_cons rfl ?_
  refine o_assign ?_
  try dsimp only [putL, setL, evL, getL]
  refine HL_nil ?_
  refine hK1 _ _ ?_
  refine HT_seq_k ?_
  intro K2 hK2
  refine HT_region ?_
  refine HL_cons rfl ?_
  refine o_move ?_
  try dsimp only [putL, setL, evL, getL]
  refine HL_cons rfl ?_
  refine o_move ?_
  try dsimp only [putL, setL, evL, getL]
  replace H := headE H
  obtain ⟨u3, hu3, H⟩ := H
  refine HL_cons rfl ?_
  refine o_call (args := #[.slice A0p p0.length c0p, .slice A1p p1.length c1p]) Try.func208 rfl rfl rfl (spec_l15Common.ok sb s no A0p c0p p0 A1p c1p p1 HRp0 HRp1 (Hp.own hH.bs) _ hu3) ?_
  rintro _ s3 ⟨A4, c4, rfl, hD⟩
  replace hH := hH.back0 hD (Up.refl _ _ _)
  clear hD
  dsimp only [addC, setC, rmC, selC, getC] at hH
  try dsimp only [putL, setL, evL, getL]
  refine HL_cons rfl ?_
  refine o_assign ?_
  try dsimp only [putL, setL, evL, getL]
  refine HL_nil ?_
  refine hK2 _ _ ?_
  refine HT_seq_k ?_
  intro K5 hK5
  refine HT_region ?_
  refine HL_cons rfl ?_
  refine o_assign ?_
  try dsimp only [putL, setL, evL, getL]
  refine HL_nil ?_
  refine hK5 _ _ ?_
  refine HT_seq_k ?_
  intro K6 hK6
  refine HT_region ?_
  refine HL_cons rfl ?_
  refine o_assign ?_
  try dsimp only [putL, setL, evL, getL]
  refine HL_cons rfl ?_
  refine o_assign ?_
  try dsimp only [putL, setL, evL, getL]
  refine HL_nil ?_
  refine hK6 _ _ ?_
  refine joinH H fun G7 hG7 H => ?_
  refine HT_joinK (fun l' s' => ∃ (x195 : List ((Int) × (List (Int)))) (A195 : Option Addr) (c195 : Nat), G7 x195 = some r ∧ l' = [.slice A0p p0.length c0p, .slice A1p p1.length c1p, undef, undef, .slice none 0 0, .slice A4 u3.length c4, .slice A195 x195.length c195, getL l' 7, getL l' 8, .slice A0p p0.length c0p, .slice A1p p1.length c1p, .slice A4 u3.length c4, getL l' 12, getL l' 13, getL l' 14, getL l' 15, getL l' 16, getL l' 17, getL l' 18, getL l' 19, getL l' 20, getL l' 21, getL l' 22, getL l' 23, getL l' 24, getL l' 25, getL l' 26, getL l' 27, getL l' 28, getL l' 29, getL l' 30, getL l' 31, getL l' 32, getL l' 33, getL l' 34, getL l' 35, getL l' 36, getL l' 37, getL l' 38, getL l' 39, getL l' 40, getL l' 41, getL l' 42, getL l' 43, getL l' 44, getL l' 45, getL l' 46, getL l' 47, getL l' 48, getL l' 49, getL l' 50, getL l' 51, getL l' 52, getL l' 53, getL l' 54, getL l' 55, getL l' 56, getL l' 57, getL l' 58, getL l' 59, getL l' 60, getL l' 61, getL l' 62, getL l' 63, getL l' 64, getL l' 65, getL l' 66, getL l' 67, getL l' 68, getL l' 69, getL l' 70, getL l' 71, getL l' 72, getL l' 73, getL l' 74, getL l' 75, getL l' 76, getL l' 77, getL l' 78, getL l' 79, getL l' 80, getL l' 81, getL l' 82, getL l' 83, getL l' 84, getL l' 85, getL l' 86, getL l' 87, getL l' 88, getL l' 89, getL l' 90, getL l' 91, getL l' 92, getL l' 93, getL l' 94, getL l' 95, getL l' 96, getL l' 97, getL l' 98, undef] ∧ Hp sb s F0 s' [Ck.ol OS170 170 A195 c195 x195]) ?_ ?_
  · intro K7 hK7
    refine HT_block ?_
    refine HT_loopK (fun kf l' s' => ∃ (x258 : List ((Int) × (List (Int)))) (A258 : Option Addr) (c258 : Nat) (x259 : Int) (x260 : Int), (spec_l15Diff.l1 p0 p1 u3 kf x258 x259 x260).bind G7 = some r ∧ l' = [.slice A0p p0.length c0p, .slice A1p p1.length c1p, undef, undef, .slice none 0 0, .slice A4 u3.length c4, .slice A258 x258.length c258, .int .i64 x259, .int .i64 x260, .slice A0p p0.length c0p, .slice A1p p1.length c1p, .slice A4 u3.length c4, getL l' 12, getL l' 13, getL l' 14, getL l' 15, getL l' 16, getL l' 17, getL l' 18, getL l' 19, getL l' 20, getL l' 21, getL l' 22, getL l' 23, getL l' 24, getL l' 25, getL l' 26, getL l' 27, getL l' 28, getL l' 29, getL l' 30, getL l' 31, getL l' 32, getL l' 33, getL l' 34, getL l' 35, getL l' 36, getL l' 37, getL l' 38, getL l' 39, getL l' 40, getL l' 41, getL l' 42, getL l' 43, getL l' 44, getL l' 45, getL l' 46, getL l' 47, getL l' 48, getL l' 49, getL l' 50, getL l' 51, getL l' 52, getL l' 53, getL l' 54, getL l' 55, getL l' 56, getL l' 57, getL l' 58, getL l' 59, getL l' 60, getL l' 61, getL l' 62, getL l' 63, getL l' 64, getL l' 65, getL l' 66, getL l' 67, getL l' 68, getL l' 69, getL l' 70, getL l' 71, getL l' 72, getL l' 73, getL l' 74, getL l' 75, getL l' 76, getL l' 77, getL l' 78, getL l' 79, getL l' 80, getL l' 81, getL l' 82, getL l' 83, getL l' 84, getL l' 85, getL l' 86, getL l' 87, getL l' 88, getL l' 89, getL l' 90, getL l' 91, getL l' 92, getL l' 93, getL l' 94, getL l' 95, getL l' 96, getL l' 97, getL l' 98, undef] ∧ Hp sb s F0 s' [Ck.ol OS170 170 A258 c258 x258, Ck.ol (Ow.sl OI 3) 24 A4 c4 u3]) (p0.length + p1.length + 2) ⟨[], none, 0, 0, 0, H, rfl, (hH.nil (K := KS170) OS170 170).sel [1, 0] (by decide)⟩ ?_
    rintro kf l' s323 ⟨x258, A258, c258, x259, x260, H, hl, hH⟩ K323 hK323
    generalize getL l' 12 = j12, getL l' 13 = j13, getL l' 14 = j14, getL l' 15 = j15, getL l' 16 = j16, getL l' 17 = j17, getL l' 18 = j18, getL l' 19 = j19, getL l' 20 = j20, getL l' 21 = j21, getL l' 22 = j22, getL l' 23 = j23, getL l' 24 = j24, getL l' 25 = j25, getL l' 26 = j26, getL l' 27 = j27, getL l' 28 = j28, getL l' 29 = j29, getL l' 30 = j30, getL l' 31 = j31, getL l' 32 = j32, getL l' 33 = j33, getL l' 34 = j34, getL l' 35 = j35, getL l' 36 = j36, getL l' 37 = j37, getL l' 38 = j38, getL l' 39 = j39, getL l' 40 = j40, getL l' 41 = j41, getL l' 42 = j42, getL l' 43 = j43, getL l' 44 = j44, getL l' 45 = j45, getL l' 46 = j46, getL l' 47 = j47, getL l' 48 = j48, getL l' 49 = j49, getL l' 50 = j50, getL l' 51 = j51, getL l' 52 = j52, getL l' 53 = j53, getL l' 54 = j54, getL l' 55 = j55, getL l' 56 = j56, getL l' 57 = j57, getL l' 58 = j58, getL l' 59 = j59, getL l' 60 = j60, getL l' 61 = j61, getL l' 62 = j62, getL l' 63 = j63, getL l' 64 = j64, getL l' 65 = j65, getL l' 66 = j66, getL l' 67 = j67, getL l' 68 = j68, getL l' 69 = j69, getL l' 70 = j70, getL l' 71 = j71, getL l' 72 = j72, getL l' 73 = j73, getL l' 74 = j74, getL l' 75 = j75, getL l' 76 = j76, getL l' 77 = j77, getL l' 78 = j78, getL l' 79 = j79, getL l' 80 = j80, getL l' 81 = j81, getL l' 82 = j82, getL l' 83 = j83, getL l' 84 = j84, getL l' 85 = j85, getL l' 86 = j86, getL l' 87 = j87, getL l' 88 = j88, getL l' 89 = j89, getL l' 90 = j90, getL l' 91 = j91, getL l' 92 = j92, getL l' 93 = j93, getL l' 94 = j94, getL l' 95 = j95, getL l' 96 = j96, getL l' 97 = j97, getL l' 98 = j98 at hl
    subst hl
    cases kf with
    | zero => simp [spec_l15Diff.l1] at H
    | succ kf =>
      rw [spec_l15Diff.l1] at H
      refine HT_seq_k ?_
      intro K331 hK331
      refine joinH H fun G332 hG332 H => ?_
      refine HT_joinK (fun l' s' => ∃ (x334 : Bool), G332 x334 = some r ∧ l' = [.slice A0p p0.length c0p, .slice A1p p1.length c1p, undef, undef, .slice none 0 0, .slice A4 u3.length c4, .slice A258 x258.length c258, .int .i64 x259, .int .i64 x260, .slice A0p p0.length c0p, .slice A1p p1.length c1p, .slice A4 u3.length c4, getL l' 12, getL l' 13, getL l' 14, getL l' 15, getL l' 16, getL l' 17, getL l' 18, getL l' 19, getL l' 20, .bool x334, j22, j23, j24, j25, j26, j27, j28, j29, j30, j31, j32, j33, j34, j35, j36, j37, j38, j39, j40, j41, j42, j43, j44, j45, j46, j47, j48, j49, j50, j51, j52, j53, j54, j55, j56, j57, j58, j59, j60, j61, j62, j63, j64, j65, j66, j67, j68, j69, j70, j71, j72, j73, j74, j75, j76, j77, j78, j79, j80, j81, j82, j83, j84, j85, j86, j87, j88, j89, j90, j91, j92, j93, j94, j95, j96, j97, j98, undef] ∧ Hp sb s F0 s' [Ck.ol (Ow.sl OI 3) 24 A4 c4 u3, Ck.ol OS170 170 A258 c258 x258]) ?_ ?_
      · intro K332 hK332
        refine HT_region ?_
        refine HL_cons rfl ?_
        refine o_move ?_
        try dsimp only [putL, setL, evL, getL]
        refine HL_cons rfl ?_
        refine o_move ?_
        try dsimp only [putL, setL, evL, getL]
        refine HL_cons rfl ?_
        refine o_len rfl Try.underlying24 ?_
        try dsimp only [putL, setL, evL, getL]
        refine HL_cons rfl ?_
        refine o_bin rfl rfl rfl ?_
        try dsimp only [putL, setL, evL, getL]
        refine HL_cons rfl ?_
        refine o_move ?_
        try dsimp only [putL, setL, evL, getL]
        rcases Bool.eq_false_or_eq_true (decide (x259 < (p0.length : Int))) with hb335 | hb335
        · replace H := iteT hb335 H
          refine HL_skip ?_ ?_
          · exact wantF (j := 4) (b := false) (t := 16) (c := decide (x259 < (p0.length : Int))) rfl rfl rfl rfl hb335
          try dsimp only [putL, setL, evL, getL]
          refine HL_skip ?_ ?_
          · exact wantF (j := 4) (b := false) (t := 16) (c := decide (x259 < (p0.length : Int))) rfl rfl rfl rfl hb335
          try dsimp only [putL, setL, evL, getL]
          refine HL_skip ?_ ?_
          · exact wantF (j := 4) (b := false) (t := 16) (c := decide (x259 < (p0.length : Int))) rfl rfl rfl rfl hb335
          try dsimp only [putL, setL, evL, getL]
          refine HL_skip ?_ ?_
          · exact wantF (j := 4) (b := false) (t := 16) (c := decide (x259 < (p0.length : Int))) rfl rfl rfl rfl hb335
          try dsimp only [putL, setL, evL, getL]
          refine HL_cons rfl ?_
          refine o_pickT rfl hb335 ?_
          try dsimp only [putL, setL, evL, getL]
          refine HL_nil ?_
          exact hK332 _ _ ⟨true, H, rfl, hH.sel [1, 0] (by decide)⟩
        · replace H := iteF hb335 H
          refine HL_want ?_ ?_
          · exact wantT (j := 4) (b := false) (t := 16) (c := decide (x259 < (p0.length : Int))) rfl rfl rfl rfl hb335
          refine o_move ?_
          try dsimp only [putL, setL, evL, getL]
          refine HL_want ?_ ?_
          · exact wantT (j := 4) (b := false) (t := 16) (c := decide (x259 < (p0.length : Int))) rfl rfl rfl rfl hb335
          refine o_move ?_
          try dsimp only [putL, setL, evL, getL]
          refine HL_want ?_ ?_
          · exact wantT (j := 4) (b := false) (t := 16) (c := decide (x259 < (p0.length : Int))) rfl rfl rfl rfl hb335
          refine o_len rfl Try.underlying24 ?_
          try dsimp only [putL, setL, evL, getL]
          refine HL_want ?_ ?_
          · exact wantT (j := 4) (b := false) (t := 16) (c := decide (x259 < (p0.length : Int))) rfl rfl rfl rfl hb335
          refine o_bin rfl rfl rfl ?_
          try dsimp only [putL, setL, evL, getL]
          refine HL_cons rfl ?_
          refine o_pickF rfl hb335 ?_
          try dsimp only [putL, setL, evL, getL]
          refine HL_nil ?_
          exact hK332 _ _ ⟨decide (x260 < (p1.length : Int)), H, rfl, hH.sel [1, 0] (by decide)⟩
      · rintro l' s336 ⟨x334, H, hl, hH⟩
        generalize getL l' 12 = j12, getL l' 13 = j13, getL l' 14 = j14, getL l' 15 = j15, getL l' 16 = j16, getL l' 17 = j17, getL l' 18 = j18, getL l' 19 = j19, getL l' 20 = j20 at hl
        subst hl
        replace H := hG332 _ H
        try dsimp only at H
        rcases Bool.eq_false_or_eq_true x334 with hb337 | hb337
        · replace H := iteT hb337 H
          refine HT_true (congrArg Value.bool hb337) ?_
          refine HT_skip ?_
          refine hK331 _ _ ?_
          refine HT_block ?_
          refine HT_block ?_
          refine joinH H fun G338 hG338 H => ?_
          refine HT_joinK (fun l' s' => ∃ (x343 : Bool), G338 x343 = some r ∧ l' = [.slice A0p p0.length c0p, .slice A1p p1.length c1p, undef, undef, .slice none 0 0, .slice A4 u3.length c4, .slice A258 x258.length c258, .int .i64 x259, .int .i64 x260, .slice A0p p0.length c0p, .slice A1p p1.length c1p, .slice A4 u3.length c4, j12, j13, j14, j15, j16, j17, j18, j19, j20, .bool x334, j22, j23, j24, j25, j26, j27, j28, j29, .bool x343, getL l' 31, getL l' 32, getL l' 33, getL l' 34, getL l' 35, getL l' 36, getL l' 37, getL l' 38, getL l' 39, getL l' 40, getL l' 41, getL l' 42, getL l' 43, getL l' 44, getL l' 45, getL l' 46, getL l' 47, getL l' 48, getL l' 49, getL l' 50, getL l' 51, j52, j53, j54, j55, j56, j57, j58, j59, j60, j61, j62, j63, j64, j65, j66, j67, j68, j69, j70, j71, j72, j73, j74, j75, j76, j77, j78, j79, j80, j81, j82, j83, j84, j85, j86, j87, j88, j89, j90, j91, j92, j93, j94, j95, j96, j97, j98, undef] ∧ Hp sb s F0 s' [Ck.ol (Ow.sl OI 3) 24 A4 c4 u3, Ck.ol OS170 170 A258 c258 x258]) ?_ ?_
          · intro K338 hK338
            refine HX_draw hMix ?_
            refine HX_lim (R := fun _ => True) (k := 0) (fun s' => Gro s336 s') 23 ?_
            have hR := Gro.refl s336
            have hH0 := hH
            refine HK_readP 0 (v := .int .i64 x259) rfl (by kernel_rfl) (fun c l s h => hQp c l s h) rfl (fun s' K hK => ?_) rfl rfl (fun _ => hR) ?_
            · refine o_move ?_
              exact hK
            try dsimp only [putL, setL, evL, getL]
            refine HK_readP 1 (v := .slice A0p p0.length c0p) rfl (by kernel_rfl) (fun c l s h => hQp c l s h) rfl (fun s' K hK => ?_) rfl rfl (fun _ => hR) ?_
            · refine o_move ?_
              exact hK
            try dsimp only [putL, setL, evL, getL]
            refine HK_readP 2 (v := .int .i64 (p0.length : Int)) rfl (by kernel_rfl) (fun c l s h => hQp c l s h) rfl (fun s' K hK => ?_) rfl rfl (fun _ => hR) ?_
            · refine o_len rfl Try.underlying24 ?_
              exact hK
            try dsimp only [putL, setL, evL, getL]
            refine HK_readP 3 (v := .bool (decide (x259 < (p0.length : Int)))) rfl (by kernel_rfl) (fun c l s h => hQp c l s h) rfl (fun s' K hK => ?_) rfl rfl (fun _ => hR) ?_
            · refine o_bin rfl rfl rfl ?_
              exact hK
            try dsimp only [putL, setL, evL, getL]
            refine HK_readP 4 (v := .bool (decide (x259 < (p0.length : Int)))) rfl (by kernel_rfl) (fun c l s h => hQp c l s h) rfl (fun s' K hK => ?_) rfl rfl (fun _ => hR) ?_
            · refine o_move ?_
              exact hK
            try dsimp only [putL, setL, evL, getL]
            rcases Bool.eq_false_or_eq_true (decide (x259 < (p0.length : Int))) with hb344 | hb344
            · replace H := iteT hb344 H
              refine HK_readP 5 (v := .int .i64 x260) rfl (by kernel_rfl) (fun c l s h => hQp c l s h) (wantT (j := 4) (b := true) (t := 35) (c := decide (x259 < (p0.length : Int))) rfl rfl rfl rfl hb344) (fun s' K hK => ?_) rfl rfl (fun _ => hR) ?_
              · refine o_move ?_
                exact hK
              try dsimp only [putL, setL, evL, getL]
              refine HK_readP 6 (v := .slice A1p p1.length c1p) rfl (by kernel_rfl) (fun c l s h => hQp c l s h) (wantT (j := 4) (b := true) (t := 35) (c := decide (x259 < (p0.length : Int))) rfl rfl rfl rfl hb344) (fun s' K hK => ?_) rfl rfl (fun _ => hR) ?_
              · refine o_move ?_
                exact hK
              try dsimp only [putL, setL, evL, getL]
              refine HK_readP 7 (v := .int .i64 (p1.length : Int)) rfl (by kernel_rfl) (fun c l s h => hQp c l s h) (wantT (j := 4) (b := true) (t := 35) (c := decide (x259 < (p0.length : Int))) rfl rfl rfl rfl hb344) (fun s' K hK => ?_) rfl rfl (fun _ => hR) ?_
              · refine o_len rfl Try.underlying24 ?_
                exact hK
              try dsimp only [putL, setL, evL, getL]
              refine HK_readP 8 (v := .bool (decide (x260 < (p1.length : Int)))) rfl (by kernel_rfl) (fun c l s h => hQp c l s h) (wantT (j := 4) (b := true) (t := 35) (c := decide (x259 < (p0.length : Int))) rfl rfl rfl rfl hb344) (fun s' K hK => ?_) rfl rfl (fun _ => hR) ?_
              · refine o_bin rfl rfl rfl ?_
                exact hK
              try dsimp only [putL, setL, evL, getL]
              refine HK_readP 9 (v := .bool (decide (x260 < (p1.length : Int)))) rfl (by kernel_rfl) (fun c l s h => hQp c l s h) rfl (fun s' K hK => ?_) rfl rfl (fun _ => hR) ?_
              · refine o_pickT rfl hb344 ?_
                exact hK
              try dsimp only [putL, setL, evL, getL]
              refine HK_readP 10 (v := .bool (decide (x260 < (p1.length : Int)))) rfl (by kernel_rfl) (fun c l s h => hQp c l s h) rfl (fun s' K hK => ?_) rfl rfl (fun _ => hR) ?_
              · refine o_move ?_
                exact hK
              try dsimp only [putL, setL, evL, getL]
              rcases Bool.eq_false_or_eq_true (decide (x260 < (p1.length : Int))) with hb345 | hb345
              · replace H := iteT hb345 H
                refine HK_readP 11 (v := .slice A0p p0.length c0p) rfl (by kernel_rfl) (fun c l s h => hQp c l s h) (wantT (j := 10) (b := true) (t := 41) (c := decide (x260 < (p1.length : Int))) rfl rfl rfl rfl hb345) (fun s' K hK => ?_) rfl rfl (fun _ => hR) ?_
                · refine o_move ?_
                  exact hK
                try dsimp only [putL, setL, evL, getL]
                refine HK_readP 12 (v := .int .i64 x259) rfl (by kernel_rfl) (fun c l s h => hQp c l s h) (wantT (j := 10) (b := true) (t := 41) (c := decide (x260 < (p1.length : Int))) rfl rfl rfl rfl hb345) (fun s' K hK => ?_) rfl rfl (fun _ => hR) ?_
                · refine o_move ?_
                  exact hK
                try dsimp only [putL, setL, evL, getL]
                replace H := headE H
                obtain ⟨u346, hu346, H⟩ := H
                obtain ⟨b346, o346, cs346, hr346, hh346, hel346⟩ := Rd.elb HRp0 hu346
                obtain rfl := hr346
                refine HK_readP 13 (v := .pointer (some ⟨b346, o346, none⟩)) rfl (by kernel_rfl) (fun c l s h => hQp c l s h) (wantT (j := 10) (b := true) (t := 41) (c := decide (x260 < (p1.length : Int))) rfl rfl rfl rfl hb345) (fun s' K hK => ?_) rfl rfl (fun _ => hR) ?_
                · refine hel346 s' rfl rfl Try.underlying24 tI3 ?_
                  exact hK
                try dsimp only [putL, setL, evL, getL]
                refine HK_read 14 (v := .int .i64 u346) rfl (by kernel_rfl) (fun c l s h => hQp c l s h) (wantT (j := 10) (b := true) (t := 41) (c := decide (x260 < (p1.length : Int))) rfl rfl rfl rfl hb345) (fun s' hR' K hK => ?_) rfl rfl hR ?_
                · refine o_load' rfl Try.underlying3 rfl ((hh346 (hH0.bs.mono.trans hR'.mono)) 0 _ rfl) ?_
                  exact hK
                try dsimp only [putL, setL, evL, getL]
                refine HK_readP 15 (v := .slice A1p p1.length c1p) rfl (by kernel_rfl) (fun c l s h => hQp c l s h) (wantT (j := 10) (b := true) (t := 41) (c := decide (x260 < (p1.length : Int))) rfl rfl rfl rfl hb345) (fun s' K hK => ?_) rfl rfl (fun _ => hR) ?_
                · refine o_move ?_
                  exact hK
                try dsimp only [putL, setL, evL, getL]
                refine HK_readP 16 (v := .int .i64 x260) rfl (by kernel_rfl) (fun c l s h => hQp c l s h) (wantT (j := 10) (b := true) (t := 41) (c := decide (x260 < (p1.length : Int))) rfl rfl rfl rfl hb345) (fun s' K hK => ?_) rfl rfl (fun _ => hR) ?_
                · refine o_move ?_
                  exact hK
                try dsimp only [putL, setL, evL, getL]
                replace H := headE H
                obtain ⟨u347, hu347, H⟩ := H
                obtain ⟨b347, o347, cs347, hr347, hh347, hel347⟩ := Rd.elb HRp1 hu347
                obtain rfl := hr347
                refine HK_readP 17 (v := .pointer (some ⟨b347, o347, none⟩)) rfl (by kernel_rfl) (fun c l s h => hQp c l s h) (wantT (j := 10) (b := true) (t := 41) (c := decide (x260 < (p1.length : Int))) rfl rfl rfl rfl hb345) (fun s' K hK => ?_) rfl rfl (fun _ => hR) ?_
                · refine hel347 s' rfl rfl Try.underlying24 tI3 ?_
                  exact hK
                try dsimp only [putL, setL, evL, getL]
                refine HK_read 18 (v := .int .i64 u347) rfl (by kernel_rfl) (fun c l s h => hQp c l s h) (wantT (j := 10) (b := true) (t := 41) (c := decide (x260 < (p1.length : Int))) rfl rfl rfl rfl hb345) (fun s' hR' K hK => ?_) rfl rfl hR ?_
                · refine o_load' rfl Try.underlying3 rfl ((hh347 (hH0.bs.mono.trans hR'.mono)) 0 _ rfl) ?_
                  exact hK
                try dsimp only [putL, setL, evL, getL]
                refine HK_readP 19 (v := .bool (u346 == u347)) rfl (by kernel_rfl) (fun c l s h => hQp c l s h) (wantT (j := 10) (b := true) (t := 41) (c := decide (x260 < (p1.length : Int))) rfl rfl rfl rfl hb345) (fun s' K hK => ?_) rfl rfl (fun _ => hR) ?_
                · refine o_bin rfl rfl rfl ?_
                  exact hK
                try dsimp only [putL, setL, evL, getL]
                refine HK_readP 20 (v := .bool (u346 == u347)) rfl (by kernel_rfl) (fun c l s h => hQp c l s h) rfl (fun s' K hK => ?_) rfl rfl (fun _ => hR) ?_
                · refine o_pickT rfl hb345 ?_
                  exact hK
                try dsimp only [putL, setL, evL, getL]
                refine HK_more [21] (by kernel_rfl) rfl (fun _ => hR) ⟨⟨_, rfl, Or.inl ⟨rfl, ?_⟩⟩, trivial⟩
                skip
                refine o_assign ?_
                try dsimp only [putL, setL, evL, getL]
                refine HK_done (fun _ => hR) (by kernel_rfl) ?_
                exact hK338 _ _ ⟨u346 == u347, H, rfl, hH⟩
              · replace H := iteF hb345 H
                refine HK_passP 11 rfl (by kernel_rfl) (fun c l s h => hQp c l s h) ?_ (fun _ => hR) ?_
                · exact wantF (j := 10) (b := true) (t := 41) (c := decide (x260 < (p1.length : Int))) rfl rfl rfl rfl hb345
                try dsimp only [putL, setL, evL, getL]
                refine HK_passP 12 rfl (by kernel_rfl) (fun c l s h => hQp c l s h) ?_ (fun _ => hR) ?_
                · exact wantF (j := 10) (b := true) (t := 41) (c := decide (x260 < (p1.length : Int))) rfl rfl rfl rfl hb345
                try dsimp only [putL, setL, evL, getL]
                refine HK_passP 13 rfl (by kernel_rfl) (fun c l s h => hQp c l s h) ?_ (fun _ => hR) ?_
                · exact wantF (j := 10) (b := true) (t := 41) (c := decide (x260 < (p1.length : Int))) rfl rfl rfl rfl hb345
                try dsimp only [putL, setL, evL, getL]
                refine HK_passP 14 rfl (by kernel_rfl) (fun c l s h => hQp c l s h) ?_ (fun _ => hR) ?_
                · exact wantF (j := 10) (b := true) (t := 41) (c := decide (x260 < (p1.length : Int))) rfl rfl rfl rfl hb345
                try dsimp only [putL, setL, evL, getL]
                refine HK_passP 15 rfl (by kernel_rfl) (fun c l s h => hQp c l s h) ?_ (fun _ => hR) ?_
                · exact wantF (j := 10) (b := true) (t := 41) (c := decide (x260 < (p1.length : Int))) rfl rfl rfl rfl hb345
                try dsimp only [putL, setL, evL, getL]
                refine HK_passP 16 rfl (by kernel_rfl) (fun c l s h => hQp c l s h) ?_ (fun _ => hR) ?_
                · exact wantF (j := 10) (b := true) (t := 41) (c := decide (x260 < (p1.length : Int))) rfl rfl rfl rfl hb345
                try dsimp only [putL, setL, evL, getL]
                refine HK_passP 17 rfl (by kernel_rfl) (fun c l s h => hQp c l s h) ?_ (fun _ => hR) ?_
                · exact wantF (j := 10) (b := true) (t := 41) (c := decide (x260 < (p1.length : Int))) rfl rfl rfl rfl hb345
                try dsimp only [putL, setL, evL, getL]
                refine HK_passP 18 rfl (by kernel_rfl) (fun c l s h => hQp c l s h) ?_ (fun _ => hR) ?_
                · exact wantF (j := 10) (b := true) (t := 41) (c := decide (x260 < (p1.length : Int))) rfl rfl rfl rfl hb345
                try dsimp only [putL, setL, evL, getL]
                refine HK_passP 19 rfl (by kernel_rfl) (fun c l s h => hQp c l s h) ?_ (fun _ => hR) ?_
                · exact wantF (j := 10) (b := true) (t := 41) (c := decide (x260 < (p1.length : Int))) rfl rfl rfl rfl hb345
                try dsimp only [putL, setL, evL, getL]
                refine HK_readP 20 (v := .bool false) rfl (by kernel_rfl) (fun c l s h => hQp c l s h) rfl (fun s' K hK => ?_) rfl rfl (fun _ => hR) ?_
                · refine o_pickF rfl hb345 ?_
                  exact hK
                try dsimp only [putL, setL, evL, getL]
                refine HK_more [21] (by kernel_rfl) rfl (fun _ => hR) ⟨⟨_, rfl, Or.inl ⟨rfl, ?_⟩⟩, trivial⟩
                skip
                refine o_assign ?_
                try dsimp only [putL, setL, evL, getL]
                refine HK_done (fun _ => hR) (by kernel_rfl) ?_
                exact hK338 _ _ ⟨false, H, rfl, hH⟩
            · replace H := iteF hb344 H
              refine HK_passP 5 rfl (by kernel_rfl) (fun c l s h => hQp c l s h) ?_ (fun _ => hR) ?_
              · exact wantF (j := 4) (b := true) (t := 35) (c := decide (x259 < (p0.length : Int))) rfl rfl rfl rfl hb344
              try dsimp only [putL, setL, evL, getL]
              refine HK_passP 6 rfl (by kernel_rfl) (fun c l s h => hQp c l s h) ?_ (fun _ => hR) ?_
              · exact wantF (j := 4) (b := true) (t := 35) (c := decide (x259 < (p0.length : Int))) rfl rfl rfl rfl hb344
              try dsimp only [putL, setL, evL, getL]
              refine HK_passP 7 rfl (by kernel_rfl) (fun c l s h => hQp c l s h) ?_ (fun _ => hR) ?_
              · exact wantF (j := 4) (b := true) (t := 35) (c := decide (x259 < (p0.length : Int))) rfl rfl rfl rfl hb344
              try dsimp only [putL, setL, evL, getL]
              refine HK_passP 8 rfl (by kernel_rfl) (fun c l s h => hQp c l s h) ?_ (fun _ => hR) ?_
              · exact wantF (j := 4) (b := true) (t := 35) (c := decide (x259 < (p0.length : Int))) rfl rfl rfl rfl hb344
              try dsimp only [putL, setL, evL, getL]
              refine HK_readP 9 (v := .bool false) rfl (by kernel_rfl) (fun c l s h => hQp c l s h) rfl (fun s' K hK => ?_) rfl rfl (fun _ => hR) ?_
              · refine o_pickF rfl hb344 ?_
                exact hK
              try dsimp only [putL, setL, evL, getL]
              refine HK_readP 10 (v := .bool false) rfl (by kernel_rfl) (fun c l s h => hQp c l s h) rfl (fun s' K hK => ?_) rfl rfl (fun _ => hR) ?_
              · refine o_move ?_
                exact hK
              try dsimp only [putL, setL, evL, getL]
              refine HK_passP 11 rfl (by kernel_rfl) (fun c l s h => hQp c l s h) ?_ (fun _ => hR) ?_
              · exact wantF (j := 10) (b := true) (t := 41) (c := false) rfl rfl rfl rfl rfl
              try dsimp only [putL, setL, evL, getL]
              refine HK_passP 12 rfl (by kernel_rfl) (fun c l s h => hQp c l s h) ?_ (fun _ => hR) ?_
              · exact wantF (j := 10) (b := true) (t := 41) (c := false) rfl rfl rfl rfl rfl
              try dsimp only [putL, setL, evL, getL]
              refine HK_passP 13 rfl (by kernel_rfl) (fun c l s h => hQp c l s h) ?_ (fun _ => hR) ?_
              · exact wantF (j := 10) (b := true) (t := 41) (c := false) rfl rfl rfl rfl rfl
              try dsimp only [putL, setL, evL, getL]
              refine HK_passP 14 rfl (by kernel_rfl) (fun c l s h => hQp c l s h) ?_ (fun _ => hR) ?_
              · exact wantF (j := 10) (b := true) (t := 41) (c := false) rfl rfl rfl rfl rfl
              try dsimp only [putL, setL, evL, getL]
              refine HK_passP 15 rfl (by kernel_rfl) (fun c l s h => hQp c l s h) ?_ (fun _ => hR) ?_
              · exact wantF (j := 10) (b := true) (t := 41) (c := false) rfl rfl rfl rfl rfl
              try dsimp only [putL, setL, evL, getL]
              refine HK_passP 16 rfl (by kernel_rfl) (fun c l s h => hQp c l s h) ?_ (fun _ => hR) ?_
              · exact wantF (j := 10) (b := true) (t := 41) (c := false) rfl rfl rfl rfl rfl
              try dsimp only [putL, setL, evL, getL]
              refine HK_passP 17 rfl (by kernel_rfl) (fun c l s h => hQp c l s h) ?_ (fun _ => hR) ?_
              · exact wantF (j := 10) (b := true) (t := 41) (c := false) rfl rfl rfl rfl rfl
              try dsimp only [putL, setL, evL, getL]
              refine HK_passP 18 rfl (by kernel_rfl) (fun c l s h => hQp c l s h) ?_ (fun _ => hR) ?_
              · exact wantF (j := 10) (b := true) (t := 41) (c := false) rfl rfl rfl rfl rfl
              try dsimp only [putL, setL, evL, getL]
              refine HK_passP 19 rfl (by kernel_rfl) (fun c l s h => hQp c l s h) ?_ (fun _ => hR) ?_
              · exact wantF (j := 10) (b := true) (t := 41) (c := false) rfl rfl rfl rfl rfl
              try dsimp only [putL, setL, evL, getL]
              refine HK_readP 20 (v := .bool false) rfl (by kernel_rfl) (fun c l s h => hQp c l s h) rfl (fun s' K hK => ?_) rfl rfl (fun _ => hR) ?_
              · refine o_pickF rfl rfl ?_
                exact hK
              try dsimp only [putL, setL, evL, getL]
              refine HK_more [21] (by kernel_rfl) rfl (fun _ => hR) ⟨⟨_, rfl, Or.inl ⟨rfl, ?_⟩⟩, trivial⟩
              skip
              refine o_assign ?_
              try dsimp only [putL, setL, evL, getL]
              refine HK_done (fun _ => hR) (by kernel_rfl) ?_
              exact hK338 _ _ ⟨false, H, rfl, hH⟩
          · rintro l' s348 ⟨x343, H, hl, hH⟩
            generalize getL l' 31 = j31, getL l' 32 = j32, getL l' 33 = j33, getL l' 34 = j34, getL l' 35 = j35, getL l' 36 = j36, getL l' 37 = j37, getL l' 38 = j38, getL l' 39 = j39, getL l' 40 = j40, getL l' 41 = j41, getL l' 42 = j42, getL l' 43 = j43, getL l' 44 = j44, getL l' 45 = j45, getL l' 46 = j46, getL l' 47 = j47, getL l' 48 = j48, getL l' 49 = j49, getL l' 50 = j50, getL l' 51 = j51 at hl
            subst hl
            replace H := hG338 _ H
            try dsimp only at H
            rcases Bool.eq_false_or_eq_true x343 with hb349 | hb349
            · replace H := iteT hb349 H
              refine HT_true (congrArg Value.bool hb349) ?_
              refine HT_seq_k ?_
              intro K350 hK350
              refine HT_region ?_
              refine HL_cons rfl ?_
              refine o_move ?_
              try dsimp only [putL, setL, evL, getL]
              refine HL_cons rfl ?_
              refine o_move ?_
              try dsimp only [putL, setL, evL, getL]
              refine HL_cons rfl ?_
              refine o_move ?_
              try dsimp only [putL, setL, evL, getL]
              replace H := headE H
              obtain ⟨u351, hu351, H⟩ := H
              obtain ⟨b351, o351, cs351, hr351, hh351, hel351⟩ := Rd.elb HRp0 hu351
              obtain rfl := hr351
              refine HL_cons rfl ?_
              refine hel351 s348 rfl rfl Try.underlying24 tI3 ?_
              try dsimp only [putL, setL, evL, getL]
              refine HL_cons rfl ?_
              refine o_load' rfl Try.underlying3 rfl ((hh351 hH.bs.mono) 0 _ rfl) ?_
              try dsimp only [putL, setL, evL, getL]
              replace H := headE H
              obtain ⟨u352, hu352, H⟩ := H
              obtain ⟨F1, hA, hB⟩ := hH.take [1] (by decide)
              dsimp only [addC, setC, rmC, selC, getC] at hA
              refine HL_cons rfl ?_
              refine o_call (args := #[.slice A258 x258.length c258, .int .i64 1, .int .i64 u351]) Try.func209 rfl rfl rfl (spec_l15Add.ok sb s348 F1 A258 c258 x258 1 u351 hA _ hu352) ?_
              rintro _ s352 ⟨A353, c353, rfl, hD⟩
              replace hH := hB _ _ _ (Up.refl _ _ _) hD
              clear hD hA hB
              dsimp only [addC, setC, rmC, selC, getC] at hH
              try dsimp only [putL, setL, evL, getL]
              refine HL_cons rfl ?_
              refine o_assign ?_
              try dsimp only [putL, setL, evL, getL]
              refine HL_nil ?_
              refine hK350 _ _ ?_
              refine HT_seq_k ?_
              intro K354 hK354
              refine HT_region ?_
              refine HL_cons rfl ?_
              refine o_move ?_
              try dsimp only [putL, setL, evL, getL]
              refine HL_cons rfl ?_
              refine o_bin rfl rfl rfl ?_
              try dsimp only [putL, setL, evL, getL]
              refine HL_cons rfl ?_
              refine o_assign ?_
              try dsimp only [putL, setL, evL, getL]
              refine HL_nil ?_
              refine hK354 _ _ ?_
              refine HT_region ?_
              refine HL_cons rfl ?_
              refine o_move ?_
              try dsimp only [putL, setL, evL, getL]
              refine HL_cons rfl ?_
              refine o_bin rfl rfl rfl ?_
              try dsimp only [putL, setL, evL, getL]
              refine HL_cons rfl ?_
              refine o_assign ?_
              try dsimp only [putL, setL, evL, getL]
              refine HL_nil ?_
              exact hK323 _ _ ⟨kf, Nat.lt_succ_self kf, u352, A353, c353, IntKind.i64.wrap (x259 + 1), IntKind.i64.wrap (x260 + 1), H, rfl, hH.sel [2, 0] (by decide)⟩
            · replace H := iteF hb349 H
              refine HT_false (congrArg Value.bool hb349) ?_
              refine joinH H fun G355 hG355 H => ?_
              refine HT_joinK (fun l' s' => ∃ (x364 : Bool), G355 x364 = some r ∧ l' = [.slice A0p p0.length c0p, .slice A1p p1.length c1p, undef, undef, .slice none 0 0, .slice A4 u3.length c4, .slice A258 x258.length c258, .int .i64 x259, .int .i64 x260, .slice A0p p0.length c0p, .slice A1p p1.length c1p, .slice A4 u3.length c4, j12, j13, j14, j15, j16, j17, j18, j19, j20, .bool x334, j22, j23, j24, j25, j26, j27, j28, j29, .bool x343, j31, j32, j33, j34, j35, j36, j37, j38, j39, j40, j41, j42, j43, j44, j45, j46, j47, j48, j49, j50, j51, j52, j53, j54, j55, j56, j57, j58, j59, j60, j61, .bool x364, getL l' 63, getL l' 64, getL l' 65, getL l' 66, getL l' 67, getL l' 68, getL l' 69, getL l' 70, getL l' 71, getL l' 72, getL l' 73, getL l' 74, getL l' 75, getL l' 76, getL l' 77, getL l' 78, getL l' 79, getL l' 80, getL l' 81, getL l' 82, getL l' 83, getL l' 84, getL l' 85, getL l' 86, getL l' 87, getL l' 88, getL l' 89, getL l' 90, j91, j92, j93, j94, j95, j96, j97, j98, undef] ∧ Hp sb s F0 s' [Ck.ol (Ow.sl OI 3) 24 A4 c4 u3, Ck.ol OS170 170 A258 c258 x258]) ?_ ?_
              · intro K355 hK355
                refine HX_draw hMix ?_
                refine HX_lim (R := fun _ => True) (k := 0) (fun s' => Gro s348 s') 30 ?_
                have hR := Gro.refl s348
                have hH0 := hH
                refine HK_readP 0 (v := .int .i64 x259) rfl (by kernel_rfl) (fun c l s h => hQp c l s h) rfl (fun s' K hK => ?_) rfl rfl (fun _ => hR) ?_
                · refine o_move ?_
                  exact hK
                try dsimp only [putL, setL, evL, getL]
                refine HK_readP 1 (v := .slice A0p p0.length c0p) rfl (by kernel_rfl) (fun c l s h => hQp c l s h) rfl (fun s' K hK => ?_) rfl rfl (fun _ => hR) ?_
                · refine o_move ?_
                  exact hK
                try dsimp only [putL, setL, evL, getL]
                refine HK_readP 2 (v := .int .i64 (p0.length : Int)) rfl (by kernel_rfl) (fun c l s h => hQp c l s h) rfl (fun s' K hK => ?_) rfl rfl (fun _ => hR) ?_
                · refine o_len rfl Try.underlying24 ?_
                  exact hK
                try dsimp only [putL, setL, evL, getL]
                refine HK_readP 3 (v := .bool (decide (x259 < (p0.length : Int)))) rfl (by kernel_rfl) (fun c l s h => hQp c l s h) rfl (fun s' K hK => ?_) rfl rfl (fun _ => hR) ?_
                · refine o_bin rfl rfl rfl ?_
                  exact hK
                try dsimp only [putL, setL, evL, getL]
                refine HK_readP 4 (v := .bool (decide (x259 < (p0.length : Int)))) rfl (by kernel_rfl) (fun c l s h => hQp c l s h) rfl (fun s' K hK => ?_) rfl rfl (fun _ => hR) ?_
                · refine o_move ?_
                  exact hK
                try dsimp only [putL, setL, evL, getL]
                rcases Bool.eq_false_or_eq_true (decide (x259 < (p0.length : Int))) with hb365 | hb365
                · replace H := iteT hb365 H
                  refine HK_readP 5 (v := .int .i64 x260) rfl (by kernel_rfl) (fun c l s h => hQp c l s h) (wantT (j := 4) (b := true) (t := 67) (c := decide (x259 < (p0.length : Int))) rfl rfl rfl rfl hb365) (fun s' K hK => ?_) rfl rfl (fun _ => hR) ?_
                  · refine o_move ?_
                    exact hK
                  try dsimp only [putL, setL, evL, getL]
                  refine HK_readP 6 (v := .slice A1p p1.length c1p) rfl (by kernel_rfl) (fun c l s h => hQp c l s h) (wantT (j := 4) (b := true) (t := 67) (c := decide (x259 < (p0.length : Int))) rfl rfl rfl rfl hb365) (fun s' K hK => ?_) rfl rfl (fun _ => hR) ?_
                  · refine o_move ?_
                    exact hK
                  try dsimp only [putL, setL, evL, getL]
                  refine HK_readP 7 (v := .int .i64 (p1.length : Int)) rfl (by kernel_rfl) (fun c l s h => hQp c l s h) (wantT (j := 4) (b := true) (t := 67) (c := decide (x259 < (p0.length : Int))) rfl rfl rfl rfl hb365) (fun s' K hK => ?_) rfl rfl (fun _ => hR) ?_
                  · refine o_len rfl Try.underlying24 ?_
                    exact hK
                  try dsimp only [putL, setL, evL, getL]
                  refine HK_readP 8 (v := .bool (x260 == (p1.length : Int))) rfl (by kernel_rfl) (fun c l s h => hQp c l s h) (wantT (j := 4) (b := true) (t := 67) (c := decide (x259 < (p0.length : Int))) rfl rfl rfl rfl hb365) (fun s' K hK => ?_) rfl rfl (fun _ => hR) ?_
                  · refine o_bin rfl rfl rfl ?_
                    exact hK
                  try dsimp only [putL, setL, evL, getL]
                  refine HK_readP 9 (v := .bool (x260 == (p1.length : Int))) rfl (by kernel_rfl) (fun c l s h => hQp c l s h) (wantT (j := 4) (b := true) (t := 67) (c := decide (x259 < (p0.length : Int))) rfl rfl rfl rfl hb365) (fun s' K hK => ?_) rfl rfl (fun _ => hR) ?_
                  · refine o_move ?_
                    exact hK
                  try dsimp only [putL, setL, evL, getL]
                  rcases Bool.eq_false_or_eq_true (x260 == (p1.length : Int)) with hb366 | hb366
                  · replace H := iteT hb366 H
                    refine HK_passP 10 rfl (by kernel_rfl) (fun c l s h => hQp c l s h) ?_ (fun _ => hR) ?_
                    · exact wantF (j := 9) (b := false) (t := 72) (c := x260 == (p1.length : Int)) rfl rfl rfl rfl hb366
                    try dsimp only [putL, setL, evL, getL]
                    refine HK_passP 11 rfl (by kernel_rfl) (fun c l s h => hQp c l s h) ?_ (fun _ => hR) ?_
                    · exact wantF (j := 9) (b := false) (t := 72) (c := x260 == (p1.length : Int)) rfl rfl rfl rfl hb366
                    try dsimp only [putL, setL, evL, getL]
                    refine HK_passP 12 rfl (by kernel_rfl) (fun c l s h => hQp c l s h) ?_ (fun _ => hR) ?_
                    · exact wantF (j := 9) (b := false) (t := 72) (c := x260 == (p1.length : Int)) rfl rfl rfl rfl hb366
                    try dsimp only [putL, setL, evL, getL]
                    refine HK_passP 13 rfl (by kernel_rfl) (fun c l s h => hQp c l s h) ?_ (fun _ => hR) ?_
                    · exact wantF (j := 9) (b := false) (t := 72) (c := x260 == (p1.length : Int)) rfl rfl rfl rfl hb366
                    try dsimp only [putL, setL, evL, getL]
                    refine HK_passP 14 rfl (by kernel_rfl) (fun c l s h => hQp c l s h) ?_ (fun _ => hR) ?_
                    · exact wantF (j := 9) (b := false) (t := 72) (c := x260 == (p1.length : Int)) rfl rfl rfl rfl hb366
                    try dsimp only [putL, setL, evL, getL]
                    refine HK_passP 15 rfl (by kernel_rfl) (fun c l s h => hQp c l s h) ?_ (fun _ => hR) ?_
                    · exact wantF (j := 9) (b := false) (t := 72) (c := x260 == (p1.length : Int)) rfl rfl rfl rfl hb366
                    try dsimp only [putL, setL, evL, getL]
                    refine HK_passP 16 rfl (by kernel_rfl) (fun c l s h => hQp c l s h) ?_ (fun _ => hR) ?_
                    · exact wantF (j := 9) (b := false) (t := 72) (c := x260 == (p1.length : Int)) rfl rfl rfl rfl hb366
                    try dsimp only [putL, setL, evL, getL]
                    refine HK_passP 17 rfl (by kernel_rfl) (fun c l s h => hQp c l s h) ?_ (fun _ => hR) ?_
                    · exact wantF (j := 9) (b := false) (t := 72) (c := x260 == (p1.length : Int)) rfl rfl rfl rfl hb366
                    try dsimp only [putL, setL, evL, getL]
                    refine HK_passP 18 rfl (by kernel_rfl) (fun c l s h => hQp c l s h) ?_ (fun _ => hR) ?_
                    · exact wantF (j := 9) (b := false) (t := 72) (c := x260 == (p1.length : Int)) rfl rfl rfl rfl hb366
                    try dsimp only [putL, setL, evL, getL]
                    refine HK_passP 19 rfl (by kernel_rfl) (fun c l s h => hQp c l s h) ?_ (fun _ => hR) ?_
                    · exact wantF (j := 9) (b := false) (t := 72) (c := x260 == (p1.length : Int)) rfl rfl rfl rfl hb366
                    try dsimp only [putL, setL, evL, getL]
                    refine HK_passP 20 rfl (by kernel_rfl) (fun c l s h => hQp c l s h) ?_ (fun _ => hR) ?_
                    · exact wantF (j := 9) (b := false) (t := 72) (c := x260 == (p1.length : Int)) rfl rfl rfl rfl hb366
                    try dsimp only [putL, setL, evL, getL]
                    refine HK_passP 21 rfl (by kernel_rfl) (fun c l s h => hQp c l s h) ?_ (fun _ => hR) ?_
                    · exact wantF (j := 9) (b := false) (t := 72) (c := x260 == (p1.length : Int)) rfl rfl rfl rfl hb366
                    try dsimp only [putL, setL, evL, getL]
                    refine HK_passP 22 rfl (by kernel_rfl) (fun c l s h => hQp c l s h) ?_ (fun _ => hR) ?_
                    · exact wantF (j := 9) (b := false) (t := 72) (c := x260 == (p1.length : Int)) rfl rfl rfl rfl hb366
                    try dsimp only [putL, setL, evL, getL]
                    refine HK_passP 23 rfl (by kernel_rfl) (fun c l s h => hQp c l s h) ?_ (fun _ => hR) ?_
                    · exact wantF (j := 9) (b := false) (t := 72) (c := x260 == (p1.length : Int)) rfl rfl rfl rfl hb366
                    try dsimp only [putL, setL, evL, getL]
                    refine HK_passP 24 rfl (by kernel_rfl) (fun c l s h => hQp c l s h) ?_ (fun _ => hR) ?_
                    · exact wantF (j := 9) (b := false) (t := 72) (c := x260 == (p1.length : Int)) rfl rfl rfl rfl hb366
                    try dsimp only [putL, setL, evL, getL]
                    refine HK_passP 25 rfl (by kernel_rfl) (fun c l s h => hQp c l s h) ?_ (fun _ => hR) ?_
                    · exact wantF (j := 9) (b := false) (t := 72) (c := x260 == (p1.length : Int)) rfl rfl rfl rfl hb366
                    try dsimp only [putL, setL, evL, getL]
                    refine HK_readP 26 (v := .bool true) rfl (by kernel_rfl) (fun c l s h => hQp c l s h) (wantT (j := 4) (b := true) (t := 67) (c := decide (x259 < (p0.length : Int))) rfl rfl rfl rfl hb365) (fun s' K hK => ?_) rfl rfl (fun _ => hR) ?_
                    · refine o_pickT rfl hb366 ?_
                      exact hK
                    try dsimp only [putL, setL, evL, getL]
                    refine HK_readP 27 (v := .bool true) rfl (by kernel_rfl) (fun c l s h => hQp c l s h) rfl (fun s' K hK => ?_) rfl rfl (fun _ => hR) ?_
                    · refine o_pickT rfl hb365 ?_
                      exact hK
                    try dsimp only [putL, setL, evL, getL]
                    refine HK_more [28] (by kernel_rfl) rfl (fun _ => hR) ⟨⟨_, rfl, Or.inl ⟨rfl, ?_⟩⟩, trivial⟩
                    skip
                    refine o_assign ?_
                    try dsimp only [putL, setL, evL, getL]
                    refine HK_done (fun _ => hR) (by kernel_rfl) ?_
                    exact hK355 _ _ ⟨true, H, rfl, hH⟩
                  · replace H := iteF hb366 H
                    refine HK_readP 10 (v := .slice A4 u3.length c4) rfl (by kernel_rfl) (fun c l s h => hQp c l s h) (wantT (j := 9) (b := false) (t := 72) (c := x260 == (p1.length : Int)) rfl rfl rfl rfl hb366) (fun s' K hK => ?_) rfl rfl (fun _ => hR) ?_
                    · refine o_move ?_
                      exact hK
                    try dsimp only [putL, setL, evL, getL]
                    refine HK_readP 11 (v := .int .i64 x259) rfl (by kernel_rfl) (fun c l s h => hQp c l s h) (wantT (j := 9) (b := false) (t := 72) (c := x260 == (p1.length : Int)) rfl rfl rfl rfl hb366) (fun s' K hK => ?_) rfl rfl (fun _ => hR) ?_
                    · refine o_move ?_
                      exact hK
                    try dsimp only [putL, setL, evL, getL]
                    refine HK_readP 12 (v := .int .i64 (IntKind.i64.wrap (x259 + 1))) rfl (by kernel_rfl) (fun c l s h => hQp c l s h) (wantT (j := 9) (b := false) (t := 72) (c := x260 == (p1.length : Int)) rfl rfl rfl rfl hb366) (fun s' K hK => ?_) rfl rfl (fun _ => hR) ?_
                    · refine o_bin rfl rfl rfl ?_
                      exact hK
                    try dsimp only [putL, setL, evL, getL]
                    replace H := headE H
                    obtain ⟨u367, hu367, H⟩ := H
                    obtain ⟨b367, o367, cs367, hA367, hr367, hh367, hel367⟩ := hH0.elo 0 rfl hu367
                    obtain ⟨A368, c368, rfl, D368⟩ := hr367
                    refine HK_readP 13 (v := .pointer (some ⟨b367, o367 + Int.toNat (IntKind.i64.wrap (x259 + 1)) * Kd.sz (Kd.sl KI), none⟩)) rfl (by kernel_rfl) (fun c l s h => hQp c l s h) (wantT (j := 9) (b := false) (t := 72) (c := x260 == (p1.length : Int)) rfl rfl rfl rfl hb366) (fun s' K hK => ?_) rfl rfl (fun _ => hR) ?_
                    · refine hel367 s' rfl rfl Try.underlying105 tI24 ?_
                      exact hK
                    try dsimp only [putL, setL, evL, getL]
                    refine HK_read 14 (v := .slice A368 u367.length c368) rfl (by kernel_rfl) (fun c l s h => hQp c l s h) (wantT (j := 9) (b := false) (t := 72) (c := x260 == (p1.length : Int)) rfl rfl rfl rfl hb366) (fun s' hR' K hK => ?_) rfl rfl hR ?_
                    · refine o_load' rfl Try.underlying24 rfl (has_gro hR' (hh367 0 _ rfl)) ?_
                      exact hK
                    try dsimp only [putL, setL, evL, getL]
                    refine HK_readP 15 (v := .int .i64 x260) rfl (by kernel_rfl) (fun c l s h => hQp c l s h) (wantT (j := 9) (b := false) (t := 72) (c := x260 == (p1.length : Int)) rfl rfl rfl rfl hb366) (fun s' K hK => ?_) rfl rfl (fun _ => hR) ?_
                    · refine o_move ?_
                      exact hK
                    try dsimp only [putL, setL, evL, getL]
                    replace H := headE H
                    obtain ⟨u369, hu369, H⟩ := H
                    obtain ⟨b369, o369, cs369, hr369, hh369, hel369⟩ := Rd.el D368 hu369
                    obtain rfl := hr369
                    refine HK_readP 16 (v := .pointer (some ⟨b369, o369, none⟩)) rfl (by kernel_rfl) (fun c l s h => hQp c l s h) (wantT (j := 9) (b := false) (t := 72) (c := x260 == (p1.length : Int)) rfl rfl rfl rfl hb366) (fun s' K hK => ?_) rfl rfl (fun _ => hR) ?_
                    · refine hel369 s' rfl rfl Try.underlying24 tI3 ?_
                      exact hK
                    try dsimp only [putL, setL, evL, getL]
                    refine HK_read 17 (v := .int .i64 u369) rfl (by kernel_rfl) (fun c l s h => hQp c l s h) (wantT (j := 9) (b := false) (t := 72) (c := x260 == (p1.length : Int)) rfl rfl rfl rfl hb366) (fun s' hR' K hK => ?_) rfl rfl hR ?_
                    · refine o_load' rfl Try.underlying3 rfl (has_gro hR' (hh369 0 _ rfl)) ?_
                      exact hK
                    try dsimp only [putL, setL, evL, getL]
                    refine HK_readP 18 (v := .slice A4 u3.length c4) rfl (by kernel_rfl) (fun c l s h => hQp c l s h) (wantT (j := 9) (b := false) (t := 72) (c := x260 == (p1.length : Int)) rfl rfl rfl rfl hb366) (fun s' K hK => ?_) rfl rfl (fun _ => hR) ?_
                    · refine o_move ?_
                      exact hK
                    try dsimp only [putL, setL, evL, getL]
                    refine HK_readP 19 (v := .int .i64 x259) rfl (by kernel_rfl) (fun c l s h => hQp c l s h) (wantT (j := 9) (b := false) (t := 72) (c := x260 == (p1.length : Int)) rfl rfl rfl rfl hb366) (fun s' K hK => ?_) rfl rfl (fun _ => hR) ?_
                    · refine o_move ?_
                      exact hK
                    try dsimp only [putL, setL, evL, getL]
                    replace H := headE H
                    obtain ⟨u370, hu370, H⟩ := H
                    obtain ⟨b370, o370, cs370, hA370, hr370, hh370, hel370⟩ := hH0.elo 0 rfl hu370
                    obtain ⟨A371, c371, rfl, D371⟩ := hr370
                    refine HK_readP 20 (v := .pointer (some ⟨b370, o370 + Int.toNat x259 * Kd.sz (Kd.sl KI), none⟩)) rfl (by kernel_rfl) (fun c l s h => hQp c l s h) (wantT (j := 9) (b := false) (t := 72) (c := x260 == (p1.length : Int)) rfl rfl rfl rfl hb366) (fun s' K hK => ?_) rfl rfl (fun _ => hR) ?_
                    · refine hel370 s' rfl rfl Try.underlying105 tI24 ?_
                      exact hK
                    try dsimp only [putL, setL, evL, getL]
                    refine HK_read 21 (v := .slice A371 u370.length c371) rfl (by kernel_rfl) (fun c l s h => hQp c l s h) (wantT (j := 9) (b := false) (t := 72) (c := x260 == (p1.length : Int)) rfl rfl rfl rfl hb366) (fun s' hR' K hK => ?_) rfl rfl hR ?_
                    · refine o_load' rfl Try.underlying24 rfl (has_gro hR' (hh370 0 _ rfl)) ?_
                      exact hK
                    try dsimp only [putL, setL, evL, getL]
                    refine HK_readP 22 (v := .int .i64 x260) rfl (by kernel_rfl) (fun c l s h => hQp c l s h) (wantT (j := 9) (b := false) (t := 72) (c := x260 == (p1.length : Int)) rfl rfl rfl rfl hb366) (fun s' K hK => ?_) rfl rfl (fun _ => hR) ?_
                    · refine o_move ?_
                      exact hK
                    try dsimp only [putL, setL, evL, getL]
                    replace H := headE H
                    obtain ⟨u372, hu372, H⟩ := H
                    obtain ⟨b372, o372, cs372, hr372, hh372, hel372⟩ := Rd.el D371 hu372
                    obtain rfl := hr372
                    refine HK_readP 23 (v := .pointer (some ⟨b372, o372, none⟩)) rfl (by kernel_rfl) (fun c l s h => hQp c l s h) (wantT (j := 9) (b := false) (t := 72) (c := x260 == (p1.length : Int)) rfl rfl rfl rfl hb366) (fun s' K hK => ?_) rfl rfl (fun _ => hR) ?_
                    · refine hel372 s' rfl rfl Try.underlying24 tI3 ?_
                      exact hK
                    try dsimp only [putL, setL, evL, getL]
                    refine HK_read 24 (v := .int .i64 u372) rfl (by kernel_rfl) (fun c l s h => hQp c l s h) (wantT (j := 9) (b := false) (t := 72) (c := x260 == (p1.length : Int)) rfl rfl rfl rfl hb366) (fun s' hR' K hK => ?_) rfl rfl hR ?_
                    · refine o_load' rfl Try.underlying3 rfl (has_gro hR' (hh372 0 _ rfl)) ?_
                      exact hK
                    try dsimp only [putL, setL, evL, getL]
                    refine HK_readP 25 (v := .bool (u369 == u372)) rfl (by kernel_rfl) (fun c l s h => hQp c l s h) (wantT (j := 9) (b := false) (t := 72) (c := x260 == (p1.length : Int)) rfl rfl rfl rfl hb366) (fun s' K hK => ?_) rfl rfl (fun _ => hR) ?_
                    · refine o_bin rfl rfl rfl ?_
                      exact hK
                    try dsimp only [putL, setL, evL, getL]
                    refine HK_readP 26 (v := .bool (u369 == u372)) rfl (by kernel_rfl) (fun c l s h => hQp c l s h) (wantT (j := 4) (b := true) (t := 67) (c := decide (x259 < (p0.length : Int))) rfl rfl rfl rfl hb365) (fun s' K hK => ?_) rfl rfl (fun _ => hR) ?_
                    · refine o_pickF rfl hb366 ?_
                      exact hK
                    try dsimp only [putL, setL, evL, getL]
                    refine HK_readP 27 (v := .bool (u369 == u372)) rfl (by kernel_rfl) (fun c l s h => hQp c l s h) rfl (fun s' K hK => ?_) rfl rfl (fun _ => hR) ?_
                    · refine o_pickT rfl hb365 ?_
                      exact hK
                    try dsimp only [putL, setL, evL, getL]
                    refine HK_more [28] (by kernel_rfl) rfl (fun _ => hR) ⟨⟨_, rfl, Or.inl ⟨rfl, ?_⟩⟩, trivial⟩
                    skip
                    refine o_assign ?_
                    try dsimp only [putL, setL, evL, getL]
                    refine HK_done (fun _ => hR) (by kernel_rfl) ?_
                    exact hK355 _ _ ⟨u369 == u372, H, rfl, hH⟩
                · replace H := iteF hb365 H
                  refine HK_passP 5 rfl (by kernel_rfl) (fun c l s h => hQp c l s h) ?_ (fun _ => hR) ?_
                  · exact wantF (j := 4) (b := true) (t := 67) (c := decide (x259 < (p0.length : Int))) rfl rfl rfl rfl hb365
                  try dsimp only [putL, setL, evL, getL]
                  refine HK_passP 6 rfl (by kernel_rfl) (fun c l s h => hQp c l s h) ?_ (fun _ => hR) ?_
                  · exact wantF (j := 4) (b := true) (t := 67) (c := decide (x259 < (p0.length : Int))) rfl rfl rfl rfl hb365
                  try dsimp only [putL, setL, evL, getL]
                  refine HK_passP 7 rfl (by kernel_rfl) (fun c l s h => hQp c l s h) ?_ (fun _ => hR) ?_
                  · exact wantF (j := 4) (b := true) (t := 67) (c := decide (x259 < (p0.length : Int))) rfl rfl rfl rfl hb365
                  try dsimp only [putL, setL, evL, getL]
                  refine HK_passP 8 rfl (by kernel_rfl) (fun c l s h => hQp c l s h) ?_ (fun _ => hR) ?_
                  · exact wantF (j := 4) (b := true) (t := 67) (c := decide (x259 < (p0.length : Int))) rfl rfl rfl rfl hb365
                  try dsimp only [putL, setL, evL, getL]
                  refine HK_passP 9 rfl (by kernel_rfl) (fun c l s h => hQp c l s h) ?_ (fun _ => hR) ?_
                  · exact wantF (j := 4) (b := true) (t := 67) (c := decide (x259 < (p0.length : Int))) rfl rfl rfl rfl hb365
                  try dsimp only [putL, setL, evL, getL]
                  refine HK_passP 10 rfl (by kernel_rfl) (fun c l s h => hQp c l s h) ?_ (fun _ => hR) ?_
                  · exact wantU (j := 9) (b := false) (t := 72) rfl rfl rfl rfl
                  try dsimp only [putL, setL, evL, getL]
                  refine HK_passP 11 rfl (by kernel_rfl) (fun c l s h => hQp c l s h) ?_ (fun _ => hR) ?_
                  · exact wantU (j := 9) (b := false) (t := 72) rfl rfl rfl rfl
                  try dsimp only [putL, setL, evL, getL]
                  refine HK_passP 12 rfl (by kernel_rfl) (fun c l s h => hQp c l s h) ?_ (fun _ => hR) ?_
                  · exact wantU (j := 9) (b := false) (t := 72) rfl rfl rfl rfl
                  try dsimp only [putL, setL, evL, getL]
                  refine HK_passP 13 rfl (by kernel_rfl) (fun c l s h => hQp c l s h) ?_ (fun _ => hR) ?_
                  · exact wantU (j := 9) (b := false) (t := 72) rfl rfl rfl rfl
                  try dsimp only [putL, setL, evL, getL]
                  refine HK_passP 14 rfl (by kernel_rfl) (fun c l s h => hQp c l s h) ?_ (fun _ => hR) ?_
                  · exact wantU (j := 9) (b := false) (t := 72) rfl rfl rfl rfl
                  try dsimp only [putL, setL, evL, getL]
                  refine HK_passP 15 rfl (by kernel_rfl) (fun c l s h => hQp c l s h) ?_ (fun _ => hR) ?_
                  · exact wantU (j := 9) (b := false) (t := 72) rfl rfl rfl rfl
                  try dsimp only [putL, setL, evL, getL]
                  refine HK_passP 16 rfl (by kernel_rfl) (fun c l s h => hQp c l s h) ?_ (fun _ => hR) ?_
                  · exact wantU (j := 9) (b := false) (t := 72) rfl rfl rfl rfl
                  try dsimp only [putL, setL, evL, getL]
                  refine HK_passP 17 rfl (by kernel_rfl) (fun c l s h => hQp c l s h) ?_ (fun _ => hR) ?_
                  · exact wantU (j := 9) (b := false) (t := 72) rfl rfl rfl rfl
                  try dsimp only [putL, setL, evL, getL]
                  refine HK_passP 18 rfl (by kernel_rfl) (fun c l s h => hQp c l s h) ?_ (fun _ => hR) ?_
                  · exact wantU (j := 9) (b := false) (t := 72) rfl rfl rfl rfl
                  try dsimp only [putL, setL, evL, getL]
                  refine HK_passP 19 rfl (by kernel_rfl) (fun c l s h => hQp c l s h) ?_ (fun _ => hR) ?_
                  · exact wantU (j := 9) (b := false) (t := 72) rfl rfl rfl rfl
                  try dsimp only [putL, setL, evL, getL]
                  refine HK_passP 20 rfl (by kernel_rfl) (fun c l s h => hQp c l s h) ?_ (fun _ => hR) ?_
                  · exact wantU (j := 9) (b := false) (t := 72) rfl rfl rfl rfl
                  try dsimp only [putL, setL, evL, getL]
                  refine HK_passP 21 rfl (by kernel_rfl) (fun c l s h => hQp c l s h) ?_ (fun _ => hR) ?_
                  · exact wantU (j := 9) (b := false) (t := 72) rfl rfl rfl rfl
                  try dsimp only [putL, setL, evL, getL]
                  refine HK_passP 22 rfl (by kernel_rfl) (fun c l s h => hQp c l s h) ?_ (fun _ => hR) ?_
                  · exact wantU (j := 9) (b := false) (t := 72) rfl rfl rfl rfl
                  try dsimp only [putL, setL, evL, getL]
                  refine HK_passP 23 rfl (by kernel_rfl) (fun c l s h => hQp c l s h) ?_ (fun _ => hR) ?_
                  · exact wantU (j := 9) (b := false) (t := 72) rfl rfl rfl rfl
                  try dsimp only [putL, setL, evL, getL]
                  refine HK_passP 24 rfl (by kernel_rfl) (fun c l s h => hQp c l s h) ?_ (fun _ => hR) ?_
                  · exact wantU (j := 9) (b := false) (t := 72) rfl rfl rfl rfl
                  try dsimp only [putL, setL, evL, getL]
                  refine HK_passP 25 rfl (by kernel_rfl) (fun c l s h => hQp c l s h) ?_ (fun _ => hR) ?_
                  · exact wantU (j := 9) (b := false) (t := 72) rfl rfl rfl rfl
                  try dsimp only [putL, setL, evL, getL]
                  refine HK_passP 26 rfl (by kernel_rfl) (fun c l s h => hQp c l s h) ?_ (fun _ => hR) ?_
                  · exact wantF (j := 4) (b := true) (t := 67) (c := decide (x259 < (p0.length : Int))) rfl rfl rfl rfl hb365
                  try dsimp only [putL, setL, evL, getL]
                  refine HK_readP 27 (v := .bool false) rfl (by kernel_rfl) (fun c l s h => hQp c l s h) rfl (fun s' K hK => ?_) rfl rfl (fun _ => hR) ?_
                  · refine o_pickF rfl hb365 ?_
                    exact hK
                  try dsimp only [putL, setL, evL, getL]
                  refine HK_more [28] (by kernel_rfl) rfl (fun _ => hR) ⟨⟨_, rfl, Or.inl ⟨rfl, ?_⟩⟩, trivial⟩
                  skip
                  refine o_assign ?_
                  try dsimp only [putL, setL, evL, getL]
                  refine HK_done (fun _ => hR) (by kernel_rfl) ?_
                  exact hK355 _ _ ⟨false, H, rfl, hH⟩
              · rintro l' s373 ⟨x364, H, hl, hH⟩
                generalize getL l' 63 = j63, getL l' 64 = j64, getL l' 65 = j65, getL l' 66 = j66, getL l' 67 = j67, getL l' 68 = j68, getL l' 69 = j69, getL l' 70 = j70, getL l' 71 = j71, getL l' 72 = j72, getL l' 73 = j73, getL l' 74 = j74, getL l' 75 = j75, getL l' 76 = j76, getL l' 77 = j77, getL l' 78 = j78, getL l' 79 = j79, getL l' 80 = j80, getL l' 81 = j81, getL l' 82 = j82, getL l' 83 = j83, getL l' 84 = j84, getL l' 85 = j85, getL l' 86 = j86, getL l' 87 = j87, getL l' 88 = j88, getL l' 89 = j89, getL l' 90 = j90 at hl
                subst hl
                replace H := hG355 _ H
                try dsimp only at H
                rcases Bool.eq_false_or_eq_true x364 with hb374 | hb374
                · replace H := iteT hb374 H
                  refine HT_true (congrArg Value.bool hb374) ?_
                  refine HT_seq_k ?_
                  intro K375 hK375
                  refine HT_region ?_
                  refine HL_cons rfl ?_
                  refine o_move ?_
                  try dsimp only [putL, setL, evL, getL]
                  refine HL_cons rfl ?_
                  refine o_move ?_
                  try dsimp only [putL, setL, evL, getL]
                  refine HL_cons rfl ?_
                  refine o_move ?_
                  try dsimp only [putL, setL, evL, getL]
                  replace H := headE H
                  obtain ⟨u376, hu376, H⟩ := H
                  obtain ⟨b376, o376, cs376, hr376, hh376, hel376⟩ := Rd.elb HRp0 hu376
                  obtain rfl := hr376
                  refine HL_cons rfl ?_
                  refine hel376 s373 rfl rfl Try.underlying24 tI3 ?_
                  try dsimp only [putL, setL, evL, getL]
                  refine HL_cons rfl ?_
                  refine o_load' rfl Try.underlying3 rfl ((hh376 hH.bs.mono) 0 _ rfl) ?_
                  try dsimp only [putL, setL, evL, getL]
                  replace H := headE H
                  obtain ⟨u377, hu377, H⟩ := H
                  obtain ⟨F1, hA, hB⟩ := hH.take [1] (by decide)
                  dsimp only [addC, setC, rmC, selC, getC] at hA
                  refine HL_cons rfl ?_
                  refine o_call (args := #[.slice A258 x258.length c258, .int .i64 2, .int .i64 u376]) Try.func209 rfl rfl rfl (spec_l15Add.ok sb s373 F1 A258 c258 x258 2 u376 hA _ hu377) ?_
                  rintro _ s377 ⟨A378, c378, rfl, hD⟩
                  replace hH := hB _ _ _ (Up.refl _ _ _) hD
                  clear hD hA hB
                  dsimp only [addC, setC, rmC, selC, getC] at hH
                  try dsimp only [putL, setL, evL, getL]
                  refine HL_cons rfl ?_
                  refine o_assign ?_
                  try dsimp only [putL, setL, evL, getL]
                  refine HL_nil ?_
                  refine hK375 _ _ ?_
                  refine HT_region ?_
                  refine HL_cons rfl ?_
                  refine o_move ?_
                  try dsimp only [putL, setL, evL, getL]
                  refine HL_cons rfl ?_
                  refine o_bin rfl rfl rfl ?_
                  try dsimp only [putL, setL, evL, getL]
                  refine HL_cons rfl ?_
                  refine o_assign ?_
                  try dsimp only [putL, setL, evL, getL]
                  refine HL_nil ?_
                  exact hK323 _ _ ⟨kf, Nat.lt_succ_self kf, u377, A378, c378, IntKind.i64.wrap (x259 + 1), x260, H, rfl, hH.sel [2, 0] (by decide)⟩
                · replace H := iteF hb374 H
                  refine HT_false (congrArg Value.bool hb374) ?_
                  refine HT_seq_k ?_
                  intro K379 hK379
                  refine HT_region ?_
                  refine HL_cons rfl ?_
                  refine o_move ?_
                  try dsimp only [putL, setL, evL, getL]
                  refine HL_cons rfl ?_
                  refine o_move ?_
                  try dsimp only [putL, setL, evL, getL]
                  refine HL_cons rfl ?_
                  refine o_move ?_
                  try dsimp only [putL, setL, evL, getL]
                  replace H := headE H
                  obtain ⟨u380, hu380, H⟩ := H
                  obtain ⟨b380, o380, cs380, hr380, hh380, hel380⟩ := Rd.elb HRp1 hu380
                  obtain rfl := hr380
                  refine HL_cons rfl ?_
                  refine hel380 s373 rfl rfl Try.underlying24 tI3 ?_
                  try dsimp only [putL, setL, evL, getL]
                  refine HL_cons rfl ?_
                  refine o_load' rfl Try.underlying3 rfl ((hh380 hH.bs.mono) 0 _ rfl) ?_
                  try dsimp only [putL, setL, evL, getL]
                  replace H := headE H
                  obtain ⟨u381, hu381, H⟩ := H
                  obtain ⟨F1, hA, hB⟩ := hH.take [1] (by decide)
                  dsimp only [addC, setC, rmC, selC, getC] at hA
                  refine HL_cons rfl ?_
                  refine o_call (args := #[.slice A258 x258.length c258, .int .i64 3, .int .i64 u380]) Try.func209 rfl rfl rfl (spec_l15Add.ok sb s373 F1 A258 c258 x258 3 u380 hA _ hu381) ?_
                  rintro _ s381 ⟨A382, c382, rfl, hD⟩
                  replace hH := hB _ _ _ (Up.refl _ _ _) hD
                  clear hD hA hB
                  dsimp only [addC, setC, rmC, selC, getC] at hH
                  try dsimp only [putL, setL, evL, getL]
                  refine HL_cons rfl ?_
                  refine o_assign ?_
                  try dsimp only [putL, setL, evL, getL]
                  refine HL_nil ?_
                  refine hK379 _ _ ?_
                  refine HT_region ?_
                  refine HL_cons rfl ?_
                  refine o_move ?_
                  try dsimp only [putL, setL, evL, getL]
                  refine HL_cons rfl ?_
                  refine o_bin rfl rfl rfl ?_
                  try dsimp only [putL, setL, evL, getL]
                  refine HL_cons rfl ?_
                  refine o_assign ?_
                  try dsimp only [putL, setL, evL, getL]
                  refine HL_nil ?_
                  exact hK323 _ _ ⟨kf, Nat.lt_succ_self kf, u381, A382, c382, x259, IntKind.i64.wrap (x260 + 1), H, rfl, hH.sel [2, 0] (by decide)⟩
        · replace H := iteF hb337 H
          refine HT_false (congrArg Value.bool hb337) ?_
          refine HT_exit ?_
          exact hK7 _ _ ⟨x258, A258, c258, H, rfl, hH.sel [1] (by decide)⟩
  · rintro l' s383 ⟨x195, A195, c195, H, hl, hH⟩
    generalize getL l' 7 = j7, getL l' 8 = j8, getL l' 12 = j12, getL l' 13 = j13, getL l' 14 = j14, getL l' 15 = j15, getL l' 16 = j16, getL l' 17 = j17, getL l' 18 = j18, getL l' 19 = j19, getL l' 20 = j20, getL l' 21 = j21, getL l' 22 = j22, getL l' 23 = j23, getL l' 24 = j24, getL l' 25 = j25, getL l' 26 = j26, getL l' 27 = j27, getL l' 28 = j28, getL l' 29 = j29, getL l' 30 = j30, getL l' 31 = j31, getL l' 32 = j32, getL l' 33 = j33, getL l' 34 = j34, getL l' 35 = j35, getL l' 36 = j36, getL l' 37 = j37, getL l' 38 = j38, getL l' 39 = j39, getL l' 40 = j40, getL l' 41 = j41, getL l' 42 = j42, getL l' 43 = j43, getL l' 44 = j44, getL l' 45 = j45, getL l' 46 = j46, getL l' 47 = j47, getL l' 48 = j48, getL l' 49 = j49, getL l' 50 = j50, getL l' 51 = j51, getL l' 52 = j52, getL l' 53 = j53, getL l' 54 = j54, getL l' 55 = j55, getL l' 56 = j56, getL l' 57 = j57, getL l' 58 = j58, getL l' 59 = j59, getL l' 60 = j60, getL l' 61 = j61, getL l' 62 = j62, getL l' 63 = j63, getL l' 64 = j64, getL l' 65 = j65, getL l' 66 = j66, getL l' 67 = j67, getL l' 68 = j68, getL l' 69 = j69, getL l' 70 = j70, getL l' 71 = j71, getL l' 72 = j72, getL l' 73 = j73, getL l' 74 = j74, getL l' 75 = j75, getL l' 76 = j76, getL l' 77 = j77, getL l' 78 = j78, getL l' 79 = j79, getL l' 80 = j80, getL l' 81 = j81, getL l' 82 = j82, getL l' 83 = j83, getL l' 84 = j84, getL l' 85 = j85, getL l' 86 = j86, getL l' 87 = j87, getL l' 88 = j88, getL l' 89 = j89, getL l' 90 = j90, getL l' 91 = j91, getL l' 92 = j92, getL l' 93 = j93, getL l' 94 = j94, getL l' 95 = j95, getL l' 96 = j96, getL l' 97 = j97, getL l' 98 = j98 at hl
    subst hl
    replace H := hG7 _ H
    try dsimp only at H
    refine HT_seq_k ?_
    intro K384 hK384
    refine HT_region ?_
    refine HL_cons rfl ?_
    refine o_move ?_
    try dsimp only [putL, setL, evL, getL]
    refine HL_cons rfl ?_
    refine o_assign ?_
    try dsimp only [putL, setL, evL, getL]
    refine HL_nil ?_
    refine hK384 _ _ ?_
    refine HT_ret ?_
    exact hQr _ _ [.slice A195 x195.length c195] ⟨rfl, trivial⟩ (retH (fun r => spec_l15Diff.post sb s F0 r _ _) (show some _ = some r from H) ⟨A195, c195, rfl, hH⟩)
def spec_DiffOf.f (p0 : List (Int)) (p1 : List (Int)) : Option ((List ((Int) × (List (Int)))) × Bool) := ((spec_l15List.f p0).bind fun u20 => if (!u20) = true then (some true) else ((spec_l15List.f p1).bind fun u22 => some (!u22))).bind fun (o : Bool) => match o with | x19 => (if x19 = true then (some ([], false)) else ((spec_l15Diff.f p0 p1).bind fun u27 => some (u27, true)))
def spec_DiffOf.post (sb s : St) (F0 : Fp) (r : (List ((Int) × (List (Int)))) × Bool) : Value → St → Prop := fun v s' => ∃ (A0 : Option Addr) (c0 : Nat), v = .tuple #[.slice A0 r.1.length c0, .bool r.2] ∧ Hp sb s F0 s' [Ck.ol OS170 170 A0 c0 r.1]
set_option maxRecDepth 100000 in
set_option maxHeartbeats 4000000 in
theorem spec_DiffOf.ok (sb s : St) (F0 : Fp) (A0p : Option Addr) (c0p : Nat) (p0 : List (Int)) (A1p : Option Addr) (c1p : Nat) (p1 : List (Int)) (HRp0 : Rd KI sb A0p c0p p0) (HRp1 : Rd KI sb A1p c1p p1) (hH : Hp sb s F0 s []) (r : (List ((Int) × (List (Int)))) × Bool) (H : spec_DiffOf.f p0 p1 = some r) : GCall Try.prog 68 #[.slice A0p p0.length c0p, .slice A1p p1.length c1p] s (spec_DiffOf.post sb s F0 r) := by
  refine GCall_ofk [.tmp 4, .tmp 5] [.slice A0p p0.length c0p, .slice A1p p1.length c1p, undef, undef, undef, undef, undef, undef, undef, undef, undef, undef, undef, undef, undef, undef, undef] Try.func68 rfl rfl rfl ?_
  intro w Q hQr hQn hQp
  replace H := topE H
  unfold spec_DiffOf.f at H
  refine HT_seq_k ?_
  intro K1 hK1
  refine HT_region ?_
  refine HL_cons rfl ?_
  refine o_assign ?_
  try dsimp only [putL, setL, evL, getL]
  refine HL_cons rfl ?_
  refine o_assign ?_
  try dsimp only [putL, setL, evL, getL]
  refine HL_nil ?_
  refine hK1 _ _ ?_
  refine HT_seq_k ?_
  intro K14 hK14
  refine joinH H fun G15 hG15 H => ?_
  refine HT_joinK (fun l' s' => ∃ (x19 : Bool), G15 x19 = some r ∧ l' = [.slice A0p p0.length c0p, .slice A1p p1.length c1p, undef, undef, .slice none 0 0, .bool false, getL l' 6, getL l' 7, getL l' 8, getL l' 9, getL l' 10, getL l' 11, getL l' 12, .bool x19, undef, undef, undef] ∧ Hp sb s F0 s' []) ?_ ?_
  · intro K15 hK15
    refine HT_region ?_
    refine HL_cons rfl ?_
    refine o_move ?_
    try dsimp only [putL, setL, evL, getL]
    replace H := headE H
    obtain ⟨u20, hu20, H⟩ := H
    refine HL_cons rfl ?_
    refine o_call (args := #[.slice A0p p0.length c0p]) Try.func101 rfl rfl rfl (spec_l15List.ok sb s no A0p c0p p0 HRp0 (Hp.own hH.bs) _ hu20) ?_
    rintro _ s20 ⟨rfl, hD⟩
    replace hH := hH.back0 hD (Up.refl _ _ _)
    clear hD
    dsimp only [addC, setC, rmC, selC, getC] at hH
    try dsimp only [putL, setL, evL, getL]
    refine HL_cons rfl ?_
    refine o_not rfl ?_
    try dsimp only [putL, setL, evL, getL]
    refine HL_cons rfl ?_
    refine o_move ?_
    try dsimp only [putL, setL, evL, getL]
    rcases Bool.eq_false_or_eq_true (!u20) with hb21 | hb21
    · replace H := iteT hb21 H
      refine HL_skip ?_ ?_
      · exact wantF (j := 3) (b := false) (t := 9) (c := !u20) rfl rfl rfl rfl hb21
      try dsimp only [putL, setL, evL, getL]
      refine HL_skip ?_ ?_
      · exact wantF (j := 3) (b := false) (t := 9) (c := !u20) rfl rfl rfl rfl hb21
      try dsimp only [putL, setL, evL, getL]
      refine HL_skip ?_ ?_
      · exact wantF (j := 3) (b := false) (t := 9) (c := !u20) rfl rfl rfl rfl hb21
      try dsimp only [putL, setL, evL, getL]
      refine HL_cons rfl ?_
      refine o_pickT rfl hb21 ?_
      try dsimp only [putL, setL, evL, getL]
      refine HL_nil ?_
      exact hK15 _ _ ⟨true, H, rfl, hH⟩
    · replace H := iteF hb21 H
      refine HL_want ?_ ?_
      · exact wantT (j := 3) (b := false) (t := 9) (c := !u20) rfl rfl rfl rfl hb21
      refine o_move ?_
      try dsimp only [putL, setL, evL, getL]
      replace H := headE H
      obtain ⟨u22, hu22, H⟩ := H
      refine HL_want ?_ ?_
      · exact wantT (j := 3) (b := false) (t := 9) (c := !u20) rfl rfl rfl rfl hb21
      refine o_call (args := #[.slice A1p p1.length c1p]) Try.func101 rfl rfl rfl (spec_l15List.ok sb s20 no A1p c1p p1 HRp1 (Hp.own hH.bs) _ hu22) ?_
      rintro _ s22 ⟨rfl, hD⟩
      replace hH := hH.back0 hD (Up.refl _ _ _)
      clear hD
      dsimp only [addC, setC, rmC, selC, getC] at hH
      try dsimp only [putL, setL, evL, getL]
      refine HL_want ?_ ?_
      · exact wantT (j := 3) (b := false) (t := 9) (c := !u20) rfl rfl rfl rfl hb21
      refine o_not rfl ?_
      try dsimp only [putL, setL, evL, getL]
      refine HL_cons rfl ?_
      refine o_pickF rfl hb21 ?_
      try dsimp only [putL, setL, evL, getL]
      refine HL_nil ?_
      exact hK15 _ _ ⟨!u22, H, rfl, hH⟩
  · rintro l' s23 ⟨x19, H, hl, hH⟩
    generalize getL l' 6 = j6, getL l' 7 = j7, getL l' 8 = j8, getL l' 9 = j9, getL l' 10 = j10, getL l' 11 = j11, getL l' 12 = j12 at hl
    subst hl
    replace H := hG15 _ H
    try dsimp only at H
    rcases Bool.eq_false_or_eq_true x19 with hb24 | hb24
    · replace H := iteT hb24 H
      refine HT_true (congrArg Value.bool hb24) ?_
      refine HT_seq_k ?_
      intro K25 hK25
      refine HT_region ?_
      refine HL_cons rfl ?_
      refine o_assign ?_
      try dsimp only [putL, setL, evL, getL]
      refine HL_cons rfl ?_
      refine o_assign ?_
      try dsimp only [putL, setL, evL, getL]
      refine HL_nil ?_
      refine hK25 _ _ ?_
      refine HT_ret ?_
      exact hQr _ _ [.slice none 0 0, .bool false] ⟨rfl, rfl, trivial⟩ (retH (fun r => spec_DiffOf.post sb s F0 r _ _) (show some _ = some r from H) ⟨none, 0, rfl, (hH.nil (K := KS170) OS170 170)⟩)
    · replace H := iteF hb24 H
      refine HT_false (congrArg Value.bool hb24) ?_
      refine HT_skip ?_
      refine hK14 _ _ ?_
      refine HT_seq_k ?_
      intro K26 hK26
      refine HT_region ?_
      refine HL_cons rfl ?_
      refine o_move ?_
      try dsimp only [putL, setL, evL, getL]
      refine HL_cons rfl ?_
      refine o_move ?_
      try dsimp only [putL, setL, evL, getL]
      replace H := headE H
      obtain ⟨u27, hu27, H⟩ := H
      refine HL_cons rfl ?_
      refine o_call (args := #[.slice A0p p0.length c0p, .slice A1p p1.length c1p]) Try.func159 rfl rfl rfl (spec_l15Diff.ok sb s23 no A0p c0p p0 A1p c1p p1 HRp0 HRp1 (Hp.own hH.bs) _ hu27) ?_
      rintro _ s27 ⟨A28, c28, rfl, hD⟩
      replace hH := hH.back0 hD (Up.refl _ _ _)
      clear hD
      dsimp only [addC, setC, rmC, selC, getC] at hH
      try dsimp only [putL, setL, evL, getL]
      refine HL_cons rfl ?_
      refine o_assign ?_
      try dsimp only [putL, setL, evL, getL]
      refine HL_cons rfl ?_
      refine o_assign ?_
      try dsimp only [putL, setL, evL, getL]
      refine HL_nil ?_
      refine hK26 _ _ ?_
      refine HT_ret ?_
      exact hQr _ _ [.slice A28 u27.length c28, .bool true] ⟨rfl, rfl, trivial⟩ (retH (fun r => spec_DiffOf.post sb s F0 r _ _) (show some _ = some r from H) ⟨A28, c28, rfl, hH⟩)
def impl_CommonOf_1.f (p0 : Int) (p1 : Int) (pf0_0 : List (Int)) : Option (List (Int)) := if (p0 == 1) = true then ((app? 17592186044416 pf0_0 [p1]).bind fun x4 => some x4) else (some pf0_0)
def impl_CommonOf_1.post (sb s : St) (F0 : Fp) (bpf0 : Nat) (r : (List (Int))) : Value → St → Prop := fun v s' => ∃ (A0 : Option Addr) (c0 : Nat), v = .tuple #[] ∧ Hp sb s F0 s' [Ck.ol OI 3 A0 c0 r, Ck.ov bpf0 [.slice A0 r.length c0] 24]
set_option maxRecDepth 100000 in
set_option maxHeartbeats 4000000 in
theorem impl_CommonOf_1.ok (sb s : St) (F0 : Fp) (p0 : Int) (p1 : Int) (bpf0 : Nat) (Af0_0p : Option Addr) (cf0_0p : Nat) (pf0_0 : List (Int)) (hH : Hp sb s F0 s [Ck.ov bpf0 [.slice Af0_0p pf0_0.length cf0_0p] 24, Ck.ol OI 3 Af0_0p cf0_0p pf0_0]) (r : (List (Int))) (H : impl_CommonOf_1.f p0 p1 pf0_0 = some r) : GCall Try.prog 160 #[.int .i64 p0, .int .i64 p1, .pointer (some ⟨bpf0, 0, none⟩)] s (impl_CommonOf_1.post sb s F0 bpf0 r) := by
  refine GCall_ofk [] [.int .i64 p0, .int .i64 p1, .pointer (some ⟨bpf0, 0, none⟩), undef, undef, undef, undef, undef, undef, undef, undef] Try.func160 rfl rfl rfl ?_
  intro w Q hQr hQn hQp
  replace H := topE H
  unfold impl_CommonOf_1.f at H
  refine HT_seq_k ?_
  intro K1 hK1
  refine HT_region ?_
  refine HL_cons rfl ?_
  refine o_move ?_
  try dsimp only [putL, setL, evL, getL]
  refine HL_cons rfl ?_
  refine o_bin rfl rfl rfl ?_
  try dsimp only [putL, setL, evL, getL]
  refine HL_nil ?_
  refine hK1 _ _ ?_
  rcases Bool.eq_false_or_eq_true (p0 == 1) with hb2 | hb2
  · replace H := iteT hb2 H
    refine HT_true (congrArg Value.bool hb2) ?_
    refine HT_region ?_
    refine HL_cons rfl ?_
    refine o_load' rfl Try.underlying24 rfl (hH.hasv 0 rfl rfl) ?_
    try dsimp only [putL, setL, evL, getL]
    refine HL_cons rfl ?_
    refine o_move ?_
    try dsimp only [putL, setL, evL, getL]
    refine HL_cons rfl ?_
    refine o_litF (K := KI) (O := OI) (ca := #[.int .i64 p1]) [[.int .i64 p1]] [p1] hH Try.underlying24 tI3 rfl (by decide) rfl rfl (by kernel_rfl) rfl ⟨rfl, Ent.own (Ent.flat rfl), trivial⟩ ?_
    intro A3 s3 hH' hG
    replace hH : Hp sb s F0 s3 [Ck.ov bpf0 [.slice Af0_0p pf0_0.length cf0_0p] 24, Ck.ol OI 3 Af0_0p cf0_0p pf0_0, Ck.ol OI 3 A3 1 [p1]] := hH'
    clear hH' hG
    try dsimp only [putL, setL, evL, getL]
    replace H := headE H
    obtain ⟨x4, hx4, H⟩ := H
    refine HL_cons rfl ?_
    refine o_appF (K := KI) (n := 17592186044416) (A := Af0_0p) (c := cf0_0p) (xs := pf0_0) (ys := [p1]) (B := A3) (c2 := 1) hH 1 rfl rfl rfl rfl Try.underlying24 tI3 rfl (by decide) (by decide) (by decide) (Src.flat (hH.rd 2 rfl)) hx4 ?_
    intro A4 c4 s4 hH'
    replace hH : Hp sb s F0 s4 [Ck.ov bpf0 [.slice Af0_0p pf0_0.length cf0_0p] 24, Ck.ol OI 3 A4 c4 x4, Ck.ol OI 3 A3 1 [p1]] := hH'
    clear hH'
    try dsimp only [putL, setL, evL, getL]
    refine HL_cons rfl ?_
    refine o_stvH (vs := [.slice A4 x4.length c4]) (us' := [.slice A4 x4.length c4]) hH 0 rfl rfl rfl rfl rfl tI24 rfl (List.cons_ne_nil _ _) rfl rfl rfl ?_
    intro s5 hH'
    replace hH : Hp sb s F0 s5 [Ck.ov bpf0 [.slice A4 x4.length c4] 24, Ck.ol OI 3 A4 c4 x4, Ck.ol OI 3 A3 1 [p1]] := hH'
    clear hH'
    try dsimp only [putL, setL, evL, getL]
    refine HL_nil ?_
    exact hQn _ _ [] trivial (retH (fun r => impl_CommonOf_1.post sb s F0 bpf0 r _ _) (show some _ = some r from H) ⟨A4, c4, rfl, hH.sel [1, 0] (by decide)⟩)
  · replace H := iteF hb2 H
    refine HT_false (congrArg Value.bool hb2) ?_
    refine HT_skip ?_
    exact hQn _ _ [] trivial (retH (fun r => impl_CommonOf_1.post sb s F0 bpf0 r _ _) (show some _ = some r from H) ⟨Af0_0p, cf0_0p, rfl, hH.sel [1, 0] (by decide)⟩)
def impl_along_impl_CommonOf_1.l1 (p0 : List (Int)) (p1 : List (Int)) (u2 : (List (List (Int)))) : Nat → Int → Int → (List (Int)) → Option (List (Int))
  | 0, _, _, _ => none
  | kf + 1, x213, x214, x215 => (if (decide (x213 < (p0.length : Int))) = true then (some true) else (some (decide (x214 < (p1.length : Int))))).bind fun (o : Bool) => match o with | x280 => (if x280 = true then (if (x214 == (p1.length : Int)) = true then ((rd? p0 x213).bind fun u287 => (impl_CommonOf_1.f 2 u287 x215).bind fun u288 => impl_along_impl_CommonOf_1.l1 p0 p1 u2 kf (IntKind.i64.wrap (x213 + 1)) x214 u288) else (if (x213 == (p0.length : Int)) = true then ((rd? p1 x214).bind fun u293 => (impl_CommonOf_1.f 3 u293 x215).bind fun u294 => impl_along_impl_CommonOf_1.l1 p0 p1 u2 kf x213 (IntKind.i64.wrap (x214 + 1)) u294) else ((rd? p0 x213).bind fun u297 => (rd? p1 x214).bind fun u298 => if (u297 == u298) = true then ((rd? p0 x213).bind fun u301 => (impl_CommonOf_1.f 1 u301 x215).bind fun u302 => impl_along_impl_CommonOf_1.l1 p0 p1 u2 kf (IntKind.i64.wrap (x213 + 1)) (IntKind.i64.wrap (x214 + 1)) u302) else ((rd? u2 (IntKind.i64.wrap (x213 + 1))).bind fun u305 => (rd? u305 x214).bind fun u307 => (rd? u2 x213).bind fun u308 => (rd? u308 x214).bind fun u310 => if (u307 == u310) = true then ((rd? p0 x213).bind fun u313 => (impl_CommonOf_1.f 2 u313 x215).bind fun u314 => impl_along_impl_CommonOf_1.l1 p0 p1 u2 kf (IntKind.i64.wrap (x213 + 1)) x214 u314) else ((rd? p1 x214).bind fun u317 => (impl_CommonOf_1.f 3 u317 x215).bind fun u318 => impl_along_impl_CommonOf_1.l1 p0 p1 u2 kf x213 (IntKind.i64.wrap (x214 + 1)) u318))))) else (some x215))
def impl_along_impl_CommonOf_1.f (p0 : List (Int)) (p1 : List (Int)) (p2c0_0 : List (Int)) : Option (List (Int)) := (impl_commons.f p0 p1).bind fun u2 => (impl_along_impl_CommonOf_1.l1 p0 p1 u2 (p0.length + p1.length + 2) 0 0 p2c0_0).bind fun (o : (List (Int))) => match o with | x162 => (some x162)
def impl_along_impl_CommonOf_1.post (sb s : St) (F0 : Fp) (bp2c0 : Nat) (r : (List (Int))) : Value → St → Prop := fun v s' => ∃ (A0 : Option Addr) (c0 : Nat), v = .tuple #[] ∧ Hp sb s F0 s' [Ck.ol OI 3 A0 c0 r, Ck.ov bp2c0 [.slice A0 r.length c0] 24]
set_option maxRecDepth 100000 in
set_option maxHeartbeats 4000000 in
theorem impl_along_impl_CommonOf_1.ok (sb s : St) (F0 : Fp) (A0p : Option Addr) (c0p : Nat) (p0 : List (Int)) (A1p : Option Addr) (c1p : Nat) (p1 : List (Int)) (bp2c0 : Nat) (A2c0_0p : Option Addr) (c2c0_0p : Nat) (p2c0_0 : List (Int)) (HRp0 : Rd KI sb A0p c0p p0) (HRp1 : Rd KI sb A1p c1p p1) (hH : Hp sb s F0 s [Ck.ov bp2c0 [.slice A2c0_0p p2c0_0.length c2c0_0p] 24, Ck.ol OI 3 A2c0_0p c2c0_0p p2c0_0]) (r : (List (Int))) (H : impl_along_impl_CommonOf_1.f p0 p1 p2c0_0 = some r) : GCall Try.prog 157 #[.slice A0p p0.length c0p, .slice A1p p1.length c1p, .func (.func 160) #[] #[.pointer (some ⟨bp2c0, 0, none⟩)]] s (impl_along_impl_CommonOf_1.post sb s F0 bp2c0 r) := by
  refine GCall_ofk [] [.slice A0p p0.length c0p, .slice A1p p1.length c1p, .func (.func 160) #[] #[.pointer (some ⟨bp2c0, 0, none⟩)], undef, undef, undef, undef, undef, undef, undef, undef, undef, undef, undef, undef, undef, undef, undef, undef, undef, undef, undef, undef, undef, undef, undef, undef, undef, undef, undef, undef, undef, undef, undef, undef, undef, undef, undef, undef, undef, undef, undef, undef, undef, undef, undef, undef, undef, undef, undef, undef, undef, undef, undef, undef, undef, undef, undef, undef, undef, undef, undef, undef, undef, undef, undef, undef, undef, undef, undef, undef, undef, undef, undef, undef, undef, undef, undef, undef, undef, undef, undef, undef, undef, undef, undef, undef, undef, undef, undef, undef, undef, undef, undef, undef, undef, undef, undef, undef, undef, undef] Try.func157 rfl rfl rfl ?_
  intro w Q hQr hQn hQp
  replace H := topE H
  unfold impl_along_impl_CommonOf_1.f at H
  refine HT_seq_k ?_
  intro K1 hK1
  refine HT_region ?_
  refine HL_cons rfl ?_
  refine o_move ?_
  try dsimp only [putL, setL, evL, getL]
  refine HL_cons rfl ?_
  refine o_move ?_
  try dsimp only [putL, setL, evL, getL]
  replace H := headE H
  obtain ⟨u2, hu2, H⟩ := H
  refine HL_cons rfl ?_
  refine o_call (args := #[.slice A0p p0.length c0p, .slice A1p p1.length c1p]) Try.func207 rfl rfl rfl (impl_commons.ok sb s no A0p c0p p0 A1p c1p p1 HRp0 HRp1 (Hp.own hH.bs) _ hu2) ?_
  rintro _ s2 ⟨A3, c3, rfl, hD⟩
  replace hH := hH.back0 hD (Up.refl _ _ _)
  clear hD
  dsimp only [addC, setC, rmC, selC, getC] at hH
  try dsimp only [putL, setL, evL, getL]
  refine HL_cons rfl ?_
  refine o_assign ?_
  try dsimp only [putL, setL, evL, getL]
  refine HL_cons rfl ?_
  refine o_assign ?_
  try dsimp only [putL, setL, evL, getL]
  refine HL_cons rfl ?_
  refine o_assign ?_
  try dsimp only [putL, setL, evL, getL]
  refine HL_nil ?_
  refine hK1 _ _ ?_
  refine joinH H fun G4 hG4 H => ?_
  refine HT_toK (fun l' s' => ∃ (x162 : List (Int)) (A162 : Option Addr) (c162 : Nat), G4 x162 = some r ∧ l' = [.slice A0p p0.length c0p, .slice A1p p1.length c1p, .func (.func 160) #[] #[.pointer (some ⟨bp2c0, 0, none⟩)], undef, undef, undef, .slice A3 u2.length c3, getL l' 7, getL l' 8, .slice A0p p0.length c0p, .slice A1p p1.length c1p, .slice A3 u2.length c3, getL l' 12, getL l' 13, getL l' 14, getL l' 15, getL l' 16, getL l' 17, getL l' 18, getL l' 19, getL l' 20, getL l' 21, getL l' 22, getL l' 23, getL l' 24, getL l' 25, getL l' 26, getL l' 27, getL l' 28, getL l' 29, getL l' 30, getL l' 31, getL l' 32, getL l' 33, getL l' 34, getL l' 35, getL l' 36, getL l' 37, getL l' 38, getL l' 39, getL l' 40, getL l' 41, getL l' 42, getL l' 43, getL l' 44, getL l' 45, getL l' 46, getL l' 47, getL l' 48, getL l' 49, getL l' 50, getL l' 51, getL l' 52, getL l' 53, getL l' 54, getL l' 55, getL l' 56, getL l' 57, getL l' 58, getL l' 59, getL l' 60, getL l' 61, getL l' 62, getL l' 63, getL l' 64, getL l' 65, getL l' 66, getL l' 67, getL l' 68, getL l' 69, getL l' 70, getL l' 71, getL l' 72, getL l' 73, getL l' 74, getL l' 75, getL l' 76, getL l' 77, getL l' 78, getL l' 79, getL l' 80, getL l' 81, getL l' 82, getL l' 83, getL l' 84, getL l' 85, getL l' 86, getL l' 87, getL l' 88, getL l' 89, getL l' 90, getL l' 91, getL l' 92, getL l' 93, getL l' 94, getL l' 95, getL l' 96, getL l' 97, getL l' 98, getL l' 99, getL l' 100] ∧ Hp sb s F0 s' [Ck.ol OI 3 A162 c162 x162, Ck.ov bp2c0 [.slice A162 x162.length c162] 24]) ?_ ?_
  · intro K4 hK4
    refine HT_block ?_
    refine HT_loopK (fun kf l' s' => ∃ (x213 : Int) (x214 : Int) (x215 : List (Int)) (A215 : Option Addr) (c215 : Nat), (impl_along_impl_CommonOf_1.l1 p0 p1 u2 kf x213 x214 x215).bind G4 = some r ∧ l' = [.slice A0p p0.length c0p, .slice A1p p1.length c1p, .func (.func 160) #[] #[.pointer (some ⟨bp2c0, 0, none⟩)], undef, undef, undef, .slice A3 u2.length c3, .int .i64 x213, .int .i64 x214, .slice A0p p0.length c0p, .slice A1p p1.length c1p, .slice A3 u2.length c3, getL l' 12, getL l' 13, getL l' 14, getL l' 15, getL l' 16, getL l' 17, getL l' 18, getL l' 19, getL l' 20, getL l' 21, getL l' 22, getL l' 23, getL l' 24, getL l' 25, getL l' 26, getL l' 27, getL l' 28, getL l' 29, getL l' 30, getL l' 31, getL l' 32, getL l' 33, getL l' 34, getL l' 35, getL l' 36, getL l' 37, getL l' 38, getL l' 39, getL l' 40, getL l' 41, getL l' 42, getL l' 43, getL l' 44, getL l' 45, getL l' 46, getL l' 47, getL l' 48, getL l' 49, getL l' 50, getL l' 51, getL l' 52, getL l' 53, getL l' 54, getL l' 55, getL l' 56, getL l' 57, getL l' 58, getL l' 59, getL l' 60, getL l' 61, getL l' 62, getL l' 63, getL l' 64, getL l' 65, getL l' 66, getL l' 67, getL l' 68, getL l' 69, getL l' 70, getL l' 71, getL l' 72, getL l' 73, getL l' 74, getL l' 75, getL l' 76, getL l' 77, getL l' 78, getL l' 79, getL l' 80, getL l' 81, getL l' 82, getL l' 83, getL l' 84, getL l' 85, getL l' 86, getL l' 87, getL l' 88, getL l' 89, getL l' 90, getL l' 91, getL l' 92, getL l' 93, getL l' 94, getL l' 95, getL l' 96, getL l' 97, getL l' 98, getL l' 99, getL l' 100] ∧ Hp sb s F0 s' [Ck.ol OI 3 A215 c215 x215, Ck.ol (Ow.sl OI 3) 24 A3 c3 u2, Ck.ov bp2c0 [.slice A215 x215.length c215] 24]) (p0.length + p1.length + 2) ⟨0, 0, p2c0_0, A2c0_0p, c2c0_0p, H, rfl, hH.sel [1, 2, 0] (by decide)⟩ ?_
    rintro kf l' s269 ⟨x213, x214, x215, A215, c215, H, hl, hH⟩ K269 hK269
    generalize getL l' 12 = j12, getL l' 13 = j13, getL l' 14 = j14, getL l' 15 = j15, getL l' 16 = j16, getL l' 17 = j17, getL l' 18 = j18, getL l' 19 = j19, getL l' 20 = j20, getL l' 21 = j21, getL l' 22 = j22, getL l' 23 = j23, getL l' 24 = j24, getL l' 25 = j25, getL l' 26 = j26, getL l' 27 = j27, getL l' 28 = j28, getL l' 29 = j29, getL l' 30 = j30, getL l' 31 = j31, getL l' 32 = j32, getL l' 33 = j33, getL l' 34 = j34, getL l' 35 = j35, getL l' 36 = j36, getL l' 37 = j37, getL l' 38 = j38, getL l' 39 = j39, getL l' 40 = j40, getL l' 41 = j41, getL l' 42 = j42, getL l' 43 = j43, getL l' 44 = j44, getL l' 45 = j45, getL l' 46 = j46, getL l' 47 = j47, getL l' 48 = j48, getL l' 49 = j49, getL l' 50 = j50, getL l' 51 = j51, getL l' 52 = j52, getL l' 53 = j53, getL l' 54 = j54, getL l' 55 = j55, getL l' 56 = j56, getL l' 57 = j57, getL l' 58 = j58, getL l' 59 = j59, getL l' 60 = j60, getL l' 61 = j61, getL l' 62 = j62, getL l' 63 = j63, getL l' 64 = j64, getL l' 65 = j65, getL l' 66 = j66, getL l' 67 = j67, getL l' 68 = j68, getL l' 69 = j69, getL l' 70 = j70, getL l' 71 = j71, getL l' 72 = j72, getL l' 73 = j73, getL l' 74 = j74, getL l' 75 = j75, getL l' 76 = j76, getL l' 77 = j77, getL l' 78 = j78, getL l' 79 = j79, getL l' 80 = j80, getL l' 81 = j81, getL l' 82 = j82, getL l' 83 = j83, getL l' 84 = j84, getL l' 85 = j85, getL l' 86 = j86, getL l' 87 = j87, getL l' 88 = j88, getL l' 89 = j89, getL l' 90 = j90, getL l' 91 = j91, getL l' 92 = j92, getL l' 93 = j93, getL l' 94 = j94, getL l' 95 = j95, getL l' 96 = j96, getL l' 97 = j97, getL l' 98 = j98, getL l' 99 = j99, getL l' 100 = j100 at hl
    subst hl
    cases kf with
    | zero => simp [impl_along_impl_CommonOf_1.l1] at H
    | succ kf =>
      rw [impl_along_impl_CommonOf_1.l1] at H
      refine HT_seq_k ?_
      intro K277 hK277
      refine joinH H fun G278 hG278 H => ?_
      refine HT_joinK (fun l' s' => ∃ (x280 : Bool), G278 x280 = some r ∧ l' = [.slice A0p p0.length c0p, .slice A1p p1.length c1p, .func (.func 160) #[] #[.pointer (some ⟨bp2c0, 0, none⟩)], undef, undef, undef, .slice A3 u2.length c3, .int .i64 x213, .int .i64 x214, .slice A0p p0.length c0p, .slice A1p p1.length c1p, .slice A3 u2.length c3, getL l' 12, getL l' 13, getL l' 14, getL l' 15, getL l' 16, getL l' 17, getL l' 18, getL l' 19, getL l' 20, .bool x280, j22, j23, j24, j25, j26, j27, j28, j29, j30, j31, j32, j33, j34, j35, j36, j37, j38, j39, j40, j41, j42, j43, j44, j45, j46, j47, j48, j49, j50, j51, j52, j53, j54, j55, j56, j57, j58, j59, j60, j61, j62, j63, j64, j65, j66, j67, j68, j69, j70, j71, j72, j73, j74, j75, j76, j77, j78, j79, j80, j81, j82, j83, j84, j85, j86, j87, j88, j89, j90, j91, j92, j93, j94, j95, j96, j97, j98, j99, j100] ∧ Hp sb s F0 s' [Ck.ol (Ow.sl OI 3) 24 A3 c3 u2, Ck.ol OI 3 A215 c215 x215, Ck.ov bp2c0 [.slice A215 x215.length c215] 24]) ?_ ?_
      · intro K278 hK278
        refine HT_region ?_
        refine HL_cons rfl ?_
        refine o_move ?_
        try dsimp only [putL, setL, evL, getL]
        refine HL_cons rfl ?_
        refine o_move ?_
        try dsimp only [putL, setL, evL, getL]
        refine HL_cons rfl ?_
        refine o_len rfl Try.underlying24 ?_
        try dsimp only [putL, setL, evL, getL]
        refine HL_cons rfl ?_
        refine o_bin rfl rfl rfl ?_
        try dsimp only [putL, setL, evL, getL]
        refine HL_cons rfl ?_
        refine o_move ?_
        try dsimp only [putL, setL, evL, getL]
        rcases Bool.eq_false_or_eq_true (decide (x213 < (p0.length : Int))) with hb281 | hb281
        · replace H := iteT hb281 H
          refine HL_skip ?_ ?_
          · exact wantF (j := 4) (b := false) (t := 16) (c := decide (x213 < (p0.length : Int))) rfl rfl rfl rfl hb281
          try dsimp only [putL, setL, evL, getL]
          refine HL_skip ?_ ?_
          · exact wantF (j := 4) (b := false) (t := 16) (c := decide (x213 < (p0.length : Int))) rfl rfl rfl rfl hb281
          try dsimp only [putL, setL, evL, getL]
          refine HL_skip ?_ ?_
          · exact wantF (j := 4) (b := false) (t := 16) (c := decide (x213 < (p0.length : Int))) rfl rfl rfl rfl hb281
          try dsimp only [putL, setL, evL, getL]
          refine HL_skip ?_ ?_
          · exact wantF (j := 4) (b := false) (t := 16) (c := decide (x213 < (p0.length : Int))) rfl rfl rfl rfl hb281
          try dsimp only [putL, setL, evL, getL]
          refine HL_cons rfl ?_
          refine o_pickT rfl hb281 ?_
          try dsimp only [putL, setL, evL, getL]
          refine HL_nil ?_
          exact hK278 _ _ ⟨true, H, rfl, hH.sel [1, 0, 2] (by decide)⟩
        · replace H := iteF hb281 H
          refine HL_want ?_ ?_
          · exact wantT (j := 4) (b := false) (t := 16) (c := decide (x213 < (p0.length : Int))) rfl rfl rfl rfl hb281
          refine o_move ?_
          try dsimp only [putL, setL, evL, getL]
          refine HL_want ?_ ?_
          · exact wantT (j := 4) (b := false) (t := 16) (c := decide (x213 < (p0.length : Int))) rfl rfl rfl rfl hb281
          refine o_move ?_
          try dsimp only [putL, setL, evL, getL]
          refine HL_want ?_ ?_
          · exact wantT (j := 4) (b := false) (t := 16) (c := decide (x213 < (p0.length : Int))) rfl rfl rfl rfl hb281
          refine o_len rfl Try.underlying24 ?_
          try dsimp only [putL, setL, evL, getL]
          refine HL_want ?_ ?_
          · exact wantT (j := 4) (b := false) (t := 16) (c := decide (x213 < (p0.length : Int))) rfl rfl rfl rfl hb281
          refine o_bin rfl rfl rfl ?_
          try dsimp only [putL, setL, evL, getL]
          refine HL_cons rfl ?_
          refine o_pickF rfl hb281 ?_
          try dsimp only [putL, setL, evL, getL]
          refine HL_nil ?_
          exact hK278 _ _ ⟨decide (x214 < (p1.length : Int)), H, rfl, hH.sel [1, 0, 2] (by decide)⟩
      · rintro l' s282 ⟨x280, H, hl, hH⟩
        generalize getL l' 12 = j12, getL l' 13 = j13, getL l' 14 = j14, getL l' 15 = j15, getL l' 16 = j16, getL l' 17 = j17, getL l' 18 = j18, getL l' 19 = j19, getL l' 20 = j20 at hl
        subst hl
        replace H := hG278 _ H
        try dsimp only at H
        rcases Bool.eq_false_or_eq_true x280 with hb283 | hb283
        · replace H := iteT hb283 H
          refine HT_true (congrArg Value.bool hb283) ?_
          refine HT_skip ?_
          refine hK277 _ _ ?_
          refine HT_block ?_
          refine HT_block ?_
          refine HT_seq_k ?_
          intro K284 hK284
          refine HT_region ?_
          refine HL_cons rfl ?_
          refine o_move ?_
          try dsimp only [putL, setL, evL, getL]
          refine HL_cons rfl ?_
          refine o_move ?_
          try dsimp only [putL, setL, evL, getL]
          refine HL_cons rfl ?_
          refine o_len rfl Try.underlying24 ?_
          try dsimp only [putL, setL, evL, getL]
          refine HL_cons rfl ?_
          refine o_bin rfl rfl rfl ?_
          try dsimp only [putL, setL, evL, getL]
          refine HL_cons rfl ?_
          refine o_assign ?_
          try dsimp only [putL, setL, evL, getL]
          refine HL_nil ?_
          refine hK284 _ _ ?_
          rcases Bool.eq_false_or_eq_true (x214 == (p1.length : Int)) with hb285 | hb285
          · replace H := iteT hb285 H
            refine HT_true (congrArg Value.bool hb285) ?_
            refine HT_seq_k ?_
            intro K286 hK286
            refine HT_region ?_
            refine HL_cons rfl ?_
            refine o_move ?_
            try dsimp only [putL, setL, evL, getL]
            refine HL_cons rfl ?_
            refine o_move ?_
            try dsimp only [putL, setL, evL, getL]
            refine HL_cons rfl ?_
            refine o_move ?_
            try dsimp only [putL, setL, evL, getL]
            replace H := headE H
            obtain ⟨u287, hu287, H⟩ := H
            obtain ⟨b287, o287, cs287, hr287, hh287, hel287⟩ := Rd.elb HRp0 hu287
            obtain rfl := hr287
            refine HL_cons rfl ?_
            refine hel287 s282 rfl rfl Try.underlying24 tI3 ?_
            try dsimp only [putL, setL, evL, getL]
            refine HL_cons rfl ?_
            refine o_load' rfl Try.underlying3 rfl ((hh287 hH.bs.mono) 0 _ rfl) ?_
            try dsimp only [putL, setL, evL, getL]
            replace H := headE H
            obtain ⟨u288, hu288, H⟩ := H
            obtain ⟨F1, hA, hB⟩ := hH.take [2, 1] (by decide)
            dsimp only [addC, setC, rmC, selC, getC] at hA
            refine HL_cons rfl ?_
            refine o_callv (first := #[]) (cap := #[.pointer (some ⟨bp2c0, 0, none⟩)]) (args := #[.int .i64 2, .int .i64 u287, .pointer (some ⟨bp2c0, 0, none⟩)]) rfl Try.func160 rfl rfl [.int .i64 2, .int .i64 u287] rfl (by simp) (impl_CommonOf_1.ok sb s282 F1 2 u287 bp2c0 A215 c215 x215 hA _ hu288) ?_
            rintro _ s288 ⟨A289, c289, rfl, hD⟩
            replace hH := hB _ _ _ (Up.refl _ _ _) hD
            clear hD hA hB
            dsimp only [addC, setC, rmC, selC, getC] at hH
            try dsimp only [putL, setL, evL, getL]
            refine HL_nil ?_
            refine hK286 _ _ ?_
            refine HT_region ?_
            refine HL_cons rfl ?_
            refine o_move ?_
            try dsimp only [putL, setL, evL, getL]
            refine HL_cons rfl ?_
            refine o_bin rfl rfl rfl ?_
            try dsimp only [putL, setL, evL, getL]
            refine HL_cons rfl ?_
            refine o_assign ?_
            try dsimp only [putL, setL, evL, getL]
            refine HL_nil ?_
            exact hK269 _ _ ⟨kf, Nat.lt_succ_self kf, IntKind.i64.wrap (x213 + 1), x214, u288, A289, c289, H, rfl, hH.sel [3, 0, 4] (by decide)⟩
          · replace H := iteF hb285 H
            refine HT_false (congrArg Value.bool hb285) ?_
            refine HT_seq_k ?_
            intro K290 hK290
            refine HT_region ?_
            refine HL_cons rfl ?_
            refine o_move ?_
            try dsimp only [putL, setL, evL, getL]
            refine HL_cons rfl ?_
            refine o_move ?_
            try dsimp only [putL, setL, evL, getL]
            refine HL_cons rfl ?_
            refine o_len rfl Try.underlying24 ?_
            try dsimp only [putL, setL, evL, getL]
            refine HL_cons rfl ?_
            refine o_bin rfl rfl rfl ?_
            try dsimp only [putL, setL, evL, getL]
            refine HL_cons rfl ?_
            refine o_assign ?_
            try dsimp only [putL, setL, evL, getL]
            refine HL_nil ?_
            refine hK290 _ _ ?_
            rcases Bool.eq_false_or_eq_true (x213 == (p0.length : Int)) with hb291 | hb291
            · replace H := iteT hb291 H
              refine HT_true (congrArg Value.bool hb291) ?_
              refine HT_seq_k ?_
              intro K292 hK292
              refine HT_region ?_
              refine HL_cons rfl ?_
              refine o_move ?_
              try dsimp only [putL, setL, evL, getL]
              refine HL_cons rfl ?_
              refine o_move ?_
              try dsimp only [putL, setL, evL, getL]
              refine HL_cons rfl ?_
              refine o_move ?_
              try dsimp only [putL, setL, evL, getL]
              replace H := headE H
              obtain ⟨u293, hu293, H⟩ := H
              obtain ⟨b293, o293, cs293, hr293, hh293, hel293⟩ := Rd.elb HRp1 hu293
              obtain rfl := hr293
              refine HL_cons rfl ?_
              refine hel293 s282 rfl rfl Try.underlying24 tI3 ?_
              try dsimp only [putL, setL, evL, getL]
              refine HL_cons rfl ?_
              refine o_load' rfl Try.underlying3 rfl ((hh293 hH.bs.mono) 0 _ rfl) ?_
              try dsimp only [putL, setL, evL, getL]
              replace H := headE H
              obtain ⟨u294, hu294, H⟩ := H
              obtain ⟨F1, hA, hB⟩ := hH.take [2, 1] (by decide)
              dsimp only [addC, setC, rmC, selC, getC] at hA
              refine HL_cons rfl ?_
              refine o_callv (first := #[]) (cap := #[.pointer (some ⟨bp2c0, 0, none⟩)]) (args := #[.int .i64 3, .int .i64 u293, .pointer (some ⟨bp2c0, 0, none⟩)]) rfl Try.func160 rfl rfl [.int .i64 3, .int .i64 u293] rfl (by simp) (impl_CommonOf_1.ok sb s282 F1 3 u293 bp2c0 A215 c215 x215 hA _ hu294) ?_
              rintro _ s294 ⟨A295, c295, rfl, hD⟩
              replace hH := hB _ _ _ (Up.refl _ _ _) hD
              clear hD hA hB
              dsimp only [addC, setC, rmC, selC, getC] at hH
              try dsimp only [putL, setL, evL, getL]
              refine HL_nil ?_
              refine hK292 _ _ ?_
              refine HT_region ?_
              refine HL_cons rfl ?_
              refine o_move ?_
              try dsimp only [putL, setL, evL, getL]
              refine HL_cons rfl ?_
              refine o_bin rfl rfl rfl ?_
              try dsimp only [putL, setL, evL, getL]
              refine HL_cons rfl ?_
              refine o_assign ?_
              try dsimp only [putL, setL, evL, getL]
              refine HL_nil ?_
              exact hK269 _ _ ⟨kf, Nat.lt_succ_self kf, x213, IntKind.i64.wrap (x214 + 1), u294, A295, c295, H, rfl, hH.sel [3, 0, 4] (by decide)⟩
            · replace H := iteF hb291 H
              refine HT_false (congrArg Value.bool hb291) ?_
              refine HT_seq_k ?_
              intro K296 hK296
              refine HX_draw hMix ?_
              refine HX_lim (R := fun _ => True) (k := 0) (fun s' => Gro s282 s') 11 ?_
              have hR := Gro.refl s282
              have hH0 := hH
              refine HK_readP 0 (v := .slice A0p p0.length c0p) rfl (by kernel_rfl) (fun c l s h => hQp c l s h) rfl (fun s' K hK => ?_) rfl rfl (fun _ => hR) ?_
              · refine o_move ?_
                exact hK
              try dsimp only [putL, setL, evL, getL]
              refine HK_readP 1 (v := .int .i64 x213) rfl (by kernel_rfl) (fun c l s h => hQp c l s h) rfl (fun s' K hK => ?_) rfl rfl (fun _ => hR) ?_
              · refine o_move ?_
                exact hK
              try dsimp only [putL, setL, evL, getL]
              replace H := headE H
              obtain ⟨u297, hu297, H⟩ := H
              obtain ⟨b297, o297, cs297, hr297, hh297, hel297⟩ := Rd.elb HRp0 hu297
              obtain rfl := hr297
              refine HK_readP 2 (v := .pointer (some ⟨b297, o297, none⟩)) rfl (by kernel_rfl) (fun c l s h => hQp c l s h) rfl (fun s' K hK => ?_) rfl rfl (fun _ => hR) ?_
              · refine hel297 s' rfl rfl Try.underlying24 tI3 ?_
                exact hK
              try dsimp only [putL, setL, evL, getL]
              refine HK_read 3 (v := .int .i64 u297) rfl (by kernel_rfl) (fun c l s h => hQp c l s h) rfl (fun s' hR' K hK => ?_) rfl rfl hR ?_
              · refine o_load' rfl Try.underlying3 rfl ((hh297 (hH0.bs.mono.trans hR'.mono)) 0 _ rfl) ?_
                exact hK
              try dsimp only [putL, setL, evL, getL]
              refine HK_readP 4 (v := .slice A1p p1.length c1p) rfl (by kernel_rfl) (fun c l s h => hQp c l s h) rfl (fun s' K hK => ?_) rfl rfl (fun _ => hR) ?_
              · refine o_move ?_
                exact hK
              try dsimp only [putL, setL, evL, getL]
              refine HK_readP 5 (v := .int .i64 x214) rfl (by kernel_rfl) (fun c l s h => hQp c l s h) rfl (fun s' K hK => ?_) rfl rfl (fun _ => hR) ?_
              · refine o_move ?_
                exact hK
              try dsimp only [putL, setL, evL, getL]
              replace H := headE H
              obtain ⟨u298, hu298, H⟩ := H
              obtain ⟨b298, o298, cs298, hr298, hh298, hel298⟩ := Rd.elb HRp1 hu298
              obtain rfl := hr298
              refine HK_readP 6 (v := .pointer (some ⟨b298, o298, none⟩)) rfl (by kernel_rfl) (fun c l s h => hQp c l s h) rfl (fun s' K hK => ?_) rfl rfl (fun _ => hR) ?_
              · refine hel298 s' rfl rfl Try.underlying24 tI3 ?_
                exact hK
              try dsimp only [putL, setL, evL, getL]
              refine HK_read 7 (v := .int .i64 u298) rfl (by kernel_rfl) (fun c l s h => hQp c l s h) rfl (fun s' hR' K hK => ?_) rfl rfl hR ?_
              · refine o_load' rfl Try.underlying3 rfl ((hh298 (hH0.bs.mono.trans hR'.mono)) 0 _ rfl) ?_
                exact hK
              try dsimp only [putL, setL, evL, getL]
              refine HK_readP 8 (v := .bool (u297 == u298)) rfl (by kernel_rfl) (fun c l s h => hQp c l s h) rfl (fun s' K hK => ?_) rfl rfl (fun _ => hR) ?_
              · refine o_bin rfl rfl rfl ?_
                exact hK
              try dsimp only [putL, setL, evL, getL]
              refine HK_more [9] (by kernel_rfl) rfl (fun _ => hR) ⟨⟨_, rfl, Or.inl ⟨rfl, ?_⟩⟩, trivial⟩
              skip
              refine o_assign ?_
              try dsimp only [putL, setL, evL, getL]
              refine HK_done (fun _ => hR) (by kernel_rfl) ?_
              refine hK296 _ _ ?_
              rcases Bool.eq_false_or_eq_true (u297 == u298) with hb299 | hb299
              · replace H := iteT hb299 H
                refine HT_true (congrArg Value.bool hb299) ?_
                refine HT_seq_k ?_
                intro K300 hK300
                refine HT_region ?_
                refine HL_cons rfl ?_
                refine o_move ?_
                try dsimp only [putL, setL, evL, getL]
                refine HL_cons rfl ?_
                refine o_move ?_
                try dsimp only [putL, setL, evL, getL]
                refine HL_cons rfl ?_
                refine o_move ?_
                try dsimp only [putL, setL, evL, getL]
                replace H := headE H
                obtain ⟨u301, hu301, H⟩ := H
                obtain ⟨b301, o301, cs301, hr301, hh301, hel301⟩ := Rd.elb HRp0 hu301
                obtain rfl := hr301
                refine HL_cons rfl ?_
                refine hel301 s282 rfl rfl Try.underlying24 tI3 ?_
                try dsimp only [putL, setL, evL, getL]
                refine HL_cons rfl ?_
                refine o_load' rfl Try.underlying3 rfl ((hh301 hH.bs.mono) 0 _ rfl) ?_
                try dsimp only [putL, setL, evL, getL]
                replace H := headE H
                obtain ⟨u302, hu302, H⟩ := H
                obtain ⟨F1, hA, hB⟩ := hH.take [2, 1] (by decide)
                dsimp only [addC, setC, rmC, selC, getC] at hA
                refine HL_cons rfl ?_
                refine o_callv (first := #[]) (cap := #[.pointer (some ⟨bp2c0, 0, none⟩)]) (args := #[.int .i64 1, .int .i64 u301, .pointer (some ⟨bp2c0, 0, none⟩)]) rfl Try.func160 rfl rfl [.int .i64 1, .int .i64 u301] rfl (by simp) (impl_CommonOf_1.ok sb s282 F1 1 u301 bp2c0 A215 c215 x215 hA _ hu302) ?_
                rintro _ s302 ⟨A303, c303, rfl, hD⟩
                replace hH := hB _ _ _ (Up.refl _ _ _) hD
                clear hD hA hB
                dsimp only [addC, setC, rmC, selC, getC] at hH
                try dsimp only [putL, setL, evL, getL]
                refine HL_nil ?_
                refine hK300 _ _ ?_
                refine HT_region ?_
                refine HL_cons rfl ?_
                refine o_move ?_
                try dsimp only [putL, setL, evL, getL]
                refine HL_cons rfl ?_
                refine o_bin rfl rfl rfl ?_
                try dsimp only [putL, setL, evL, getL]
                refine HL_cons rfl ?_
                refine o_move ?_
                try dsimp only [putL, setL, evL, getL]
                refine HL_cons rfl ?_
                refine o_bin rfl rfl rfl ?_
                try dsimp only [putL, setL, evL, getL]
                refine HL_cons rfl ?_
                refine o_assign ?_
                try dsimp only [putL, setL, evL, getL]
                refine HL_cons rfl ?_
                refine o_assign ?_
                try dsimp only [putL, setL, evL, getL]
                refine HL_nil ?_
                exact hK269 _ _ ⟨kf, Nat.lt_succ_self kf, IntKind.i64.wrap (x213 + 1), IntKind.i64.wrap (x214 + 1), u302, A303, c303, H, rfl, hH.sel [3, 0, 4] (by decide)⟩
              · replace H := iteF hb299 H
                refine HT_false (congrArg Value.bool hb299) ?_
                refine HT_seq_k ?_
                intro K304 hK304
                refine HX_draw hMix ?_
                refine HX_lim (R := fun _ => True) (k := 0) (fun s' => Gro s282 s') 18 ?_
                have hR := Gro.refl s282
                have hH0 := hH
                refine HK_readP 0 (v := .slice A3 u2.length c3) rfl (by kernel_rfl) (fun c l s h => hQp c l s h) rfl (fun s' K hK => ?_) rfl rfl (fun _ => hR) ?_
                · refine o_move ?_
                  exact hK
                try dsimp only [putL, setL, evL, getL]
                refine HK_readP 1 (v := .int .i64 x213) rfl (by kernel_rfl) (fun c l s h => hQp c l s h) rfl (fun s' K hK => ?_) rfl rfl (fun _ => hR) ?_
                · refine o_move ?_
                  exact hK
                try dsimp only [putL, setL, evL, getL]
                refine HK_readP 2 (v := .int .i64 (IntKind.i64.wrap (x213 + 1))) rfl (by kernel_rfl) (fun c l s h => hQp c l s h) rfl (fun s' K hK => ?_) rfl rfl (fun _ => hR) ?_
                · refine o_bin rfl rfl rfl ?_
                  exact hK
                try dsimp only [putL, setL, evL, getL]
                replace H := headE H
                obtain ⟨u305, hu305, H⟩ := H
                obtain ⟨b305, o305, cs305, hA305, hr305, hh305, hel305⟩ := hH0.elo 0 rfl hu305
                obtain ⟨A306, c306, rfl, D306⟩ := hr305
                refine HK_readP 3 (v := .pointer (some ⟨b305, o305 + Int.toNat (IntKind.i64.wrap (x213 + 1)) * Kd.sz (Kd.sl KI), none⟩)) rfl (by kernel_rfl) (fun c l s h => hQp c l s h) rfl (fun s' K hK => ?_) rfl rfl (fun _ => hR) ?_
                · refine hel305 s' rfl rfl Try.underlying105 tI24 ?_
                  exact hK
                try dsimp only [putL, setL, evL, getL]
                refine HK_read 4 (v := .slice A306 u305.length c306) rfl (by kernel_rfl) (fun c l s h => hQp c l s h) rfl (fun s' hR' K hK => ?_) rfl rfl hR ?_
                · refine o_load' rfl Try.underlying24 rfl (has_gro hR' (hh305 0 _ rfl)) ?_
                  exact hK
                try dsimp only [putL, setL, evL, getL]
                refine HK_readP 5 (v := .int .i64 x214) rfl (by kernel_rfl) (fun c l s h => hQp c l s h) rfl (fun s' K hK => ?_) rfl rfl (fun _ => hR) ?_
                · refine o_move ?_
                  exact hK
                try dsimp only [putL, setL, evL, getL]
                replace H := headE H
                obtain ⟨u307, hu307, H⟩ := H
                obtain ⟨b307, o307, cs307, hr307, hh307, hel307⟩ := Rd.el D306 hu307
                obtain rfl := hr307
                refine HK_readP 6 (v := .pointer (some ⟨b307, o307, none⟩)) rfl (by kernel_rfl) (fun c l s h => hQp c l s h) rfl (fun s' K hK => ?_) rfl rfl (fun _ => hR) ?_
                · refine hel307 s' rfl rfl Try.underlying24 tI3 ?_
                  exact hK
                try dsimp only [putL, setL, evL, getL]
                refine HK_read 7 (v := .int .i64 u307) rfl (by kernel_rfl) (fun c l s h => hQp c l s h) rfl (fun s' hR' K hK => ?_) rfl rfl hR ?_
                · refine o_load' rfl Try.underlying3 rfl (has_gro hR' (hh307 0 _ rfl)) ?_
                  exact hK
                try dsimp only [putL, setL, evL, getL]
                refine HK_readP 8 (v := .slice A3 u2.length c3) rfl (by kernel_rfl) (fun c l s h => hQp c l s h) rfl (fun s' K hK => ?_) rfl rfl (fun _ => hR) ?_
                · refine o_move ?_
                  exact hK
                try dsimp only [putL, setL, evL, getL]
                refine HK_readP 9 (v := .int .i64 x213) rfl (by kernel_rfl) (fun c l s h => hQp c l s h) rfl (fun s' K hK => ?_) rfl rfl (fun _ => hR) ?_
                · refine o_move ?_
                  exact hK
                try dsimp only [putL, setL, evL, getL]
                replace H := headE H
                obtain ⟨u308, hu308, H⟩ := H
                obtain ⟨b308, o308, cs308, hA308, hr308, hh308, hel308⟩ := hH0.elo 0 rfl hu308
                obtain ⟨A309, c309, rfl, D309⟩ := hr308
                refine HK_readP 10 (v := .pointer (some ⟨b308, o308 + Int.toNat x213 * Kd.sz (Kd.sl KI), none⟩)) rfl (by kernel_rfl) (fun c l s h => hQp c l s h) rfl (fun s' K hK => ?_) rfl rfl (fun _ => hR) ?_
                · refine hel308 s' rfl rfl Try.underlying105 tI24 ?_
                  exact hK
                try dsimp only [putL, setL, evL, getL]
                refine HK_read 11 (v := .slice A309 u308.length c309) rfl (by kernel_rfl) (fun c l s h => hQp c l s h) rfl (fun s' hR' K hK => ?_) rfl rfl hR ?_
                · refine o_load' rfl Try.underlying24 rfl (has_gro hR' (hh308 0 _ rfl)) ?_
                  exact hK
                try dsimp only [putL, setL, evL, getL]
                refine HK_readP 12 (v := .int .i64 x214) rfl (by kernel_rfl) (fun c l s h => hQp c l s h) rfl (fun s' K hK => ?_) rfl rfl (fun _ => hR) ?_
                · refine o_move ?_
                  exact hK
                try dsimp only [putL, setL, evL, getL]
                replace H := headE H
                obtain ⟨u310, hu310, H⟩ := H
                obtain ⟨b310, o310, cs310, hr310, hh310, hel310⟩ := Rd.el D309 hu310
                obtain rfl := hr310
                refine HK_readP 13 (v := .pointer (some ⟨b310, o310, none⟩)) rfl (by kernel_rfl) (fun c l s h => hQp c l s h) rfl (fun s' K hK => ?_) rfl rfl (fun _ => hR) ?_
                · refine hel310 s' rfl rfl Try.underlying24 tI3 ?_
                  exact hK
                try dsimp only [putL, setL, evL, getL]
                refine HK_read 14 (v := .int .i64 u310) rfl (by kernel_rfl) (fun c l s h => hQp c l s h) rfl (fun s' hR' K hK => ?_) rfl rfl hR ?_
                · refine o_load' rfl Try.underlying3 rfl (has_gro hR' (hh310 0 _ rfl)) ?_
                  exact hK
                try dsimp only [putL, setL, evL, getL]
                refine HK_readP 15 (v := .bool (u307 == u310)) rfl (by kernel_rfl) (fun c l s h => hQp c l s h) rfl (fun s' K hK => ?_) rfl rfl (fun _ => hR) ?_
                · refine o_bin rfl rfl rfl ?_
                  exact hK
                try dsimp only [putL, setL, evL, getL]
                refine HK_more [16] (by kernel_rfl) rfl (fun _ => hR) ⟨⟨_, rfl, Or.inl ⟨rfl, ?_⟩⟩, trivial⟩
                skip
                refine o_assign ?_
                try dsimp only [putL, setL, evL, getL]
                refine HK_done (fun _ => hR) (by kernel_rfl) ?_
                refine hK304 _ _ ?_
                rcases Bool.eq_false_or_eq_true (u307 == u310) with hb311 | hb311
                · replace H := iteT hb311 H
                  refine HT_true (congrArg Value.bool hb311) ?_
                  refine HT_seq_k ?_
                  intro K312 hK312
                  refine HT_region ?_
                  refine HL_cons rfl ?_
                  refine o_move ?_
                  try dsimp only [putL, setL, evL, getL]
                  refine HL_cons rfl ?_
                  refine o_move ?_
                  try dsimp only [putL, setL, evL, getL]
                  refine HL_cons rfl ?_
                  refine o_move ?_
                  try dsimp only [putL, setL, evL, getL]
                  replace H := headE H
                  obtain ⟨u313, hu313, H⟩ := H
                  obtain ⟨b313, o313, cs313, hr313, hh313, hel313⟩ := Rd.elb HRp0 hu313
                  obtain rfl := hr313
                  refine HL_cons rfl ?_
                  refine hel313 s282 rfl rfl Try.underlying24 tI3 ?_
                  try dsimp only [putL, setL, evL, getL]
                  refine HL_cons rfl ?_
                  refine o_load' rfl Try.underlying3 rfl ((hh313 hH.bs.mono) 0 _ rfl) ?_
                  try dsimp only [putL, setL, evL, getL]
                  replace H := headE H
                  obtain ⟨u314, hu314, H⟩ := H
                  obtain ⟨F1, hA, hB⟩ := hH.take [2, 1] (by decide)
                  dsimp only [addC, setC, rmC, selC, getC] at hA
                  refine HL_cons rfl ?_
                  refine o_callv (first := #[]) (cap := #[.pointer (some ⟨bp2c0, 0, none⟩)]) (args := #[.int .i64 2, .int .i64 u313, .pointer (some ⟨bp2c0, 0, none⟩)]) rfl Try.func160 rfl rfl [.int .i64 2, .int .i64 u313] rfl (by simp) (impl_CommonOf_1.ok sb s282 F1 2 u313 bp2c0 A215 c215 x215 hA _ hu314) ?_
                  rintro _ s314 ⟨A315, c315, rfl, hD⟩
                  replace hH := hB _ _ _ (Up.refl _ _ _) hD
                  clear hD hA hB
                  dsimp only [addC, setC, rmC, selC, getC] at hH
                  try dsimp only [putL, setL, evL, getL]
                  refine HL_nil ?_
                  refine hK312 _ _ ?_
                  refine HT_region ?_
                  refine HL_cons rfl ?_
                  refine o_move ?_
                  try dsimp only [putL, setL, evL, getL]
                  refine HL_cons rfl ?_
                  refine o_bin rfl rfl rfl ?_
                  try dsimp only [putL, setL, evL, getL]
                  refine HL_cons rfl ?_
                  refine o_assign ?_
                  try dsimp only [putL, setL, evL, getL]
                  refine HL_nil ?_
                  exact hK269 _ _ ⟨kf, Nat.lt_succ_self kf, IntKind.i64.wrap (x213 + 1), x214, u314, A315, c315, H, rfl, hH.sel [3, 0, 4] (by decide)⟩
                · replace H := iteF hb311 H
                  refine HT_false (congrArg Value.bool hb311) ?_
                  refine HT_seq_k ?_
                  intro K316 hK316
                  refine HT_region ?_
                  refine HL_cons rfl ?_
                  refine o_move ?_
                  try dsimp only [putL, setL, evL, getL]
                  refine HL_cons rfl ?_
                  refine o_move ?_
                  try dsimp only [putL, setL, evL, getL]
                  refine HL_cons rfl ?_
                  refine o_move ?_
                  try dsimp only [putL, setL, evL, getL]
                  replace H := headE H
                  obtain ⟨u317, hu317, H⟩ := H
                  obtain ⟨b317, o317, cs317, hr317, hh317, hel317⟩ := Rd.elb HRp1 hu317
                  obtain rfl := hr317
                  refine HL_cons rfl ?_
                  refine hel317 s282 rfl rfl Try.underlying24 tI3 ?_
                  try dsimp only [putL, setL, evL, getL]
                  refine HL_cons rfl ?_
                  refine o_load' rfl Try.underlying3 rfl ((hh317 hH.bs.mono) 0 _ rfl) ?_
                  try dsimp only [putL, setL, evL, getL]
                  replace H := headE H
                  obtain ⟨u318, hu318, H⟩ := H
                  obtain ⟨F1, hA, hB⟩ := hH.take [2, 1] (by decide)
                  dsimp only [addC, setC, rmC, selC, getC] at hA
                  refine HL_cons rfl ?_
                  refine o_callv (first := #[]) (cap := #[.pointer (some ⟨bp2c0, 0, none⟩)]) (args := #[.int .i64 3, .int .i64 u317, .pointer (some ⟨bp2c0, 0, none⟩)]) rfl Try.func160 rfl rfl [.int .i64 3, .int .i64 u317] rfl (by simp) (impl_CommonOf_1.ok sb s282 F1 3 u317 bp2c0 A215 c215 x215 hA _ hu318) ?_
                  rintro _ s318 ⟨A319, c319, rfl, hD⟩
                  replace hH := hB _ _ _ (Up.refl _ _ _) hD
                  clear hD hA hB
                  dsimp only [addC, setC, rmC, selC, getC] at hH
                  try dsimp only [putL, setL, evL, getL]
                  refine HL_nil ?_
                  refine hK316 _ _ ?_
                  refine HT_region ?_
                  refine HL_cons rfl ?_
                  refine o_move ?_
                  try dsimp only [putL, setL, evL, getL]
                  refine HL_cons rfl ?_
                  refine o_bin rfl rfl rfl ?_
                  try dsimp only [putL, setL, evL, getL]
                  refine HL_cons rfl ?_
                  refine o_assign ?_
                  try dsimp only [putL, setL, evL, getL]
                  refine HL_nil ?_
                  exact hK269 _ _ ⟨kf, Nat.lt_succ_self kf, x213, IntKind.i64.wrap (x214 + 1), u318, A319, c319, H, rfl, hH.sel [3, 0, 4] (by decide)⟩
        · replace H := iteF hb283 H
          refine HT_false (congrArg Value.bool hb283) ?_
          refine HT_exit ?_
          exact hK4 _ _ ⟨x215, A215, c215, H, rfl, hH.sel [1, 2] (by decide)⟩
  · rintro l' s320 ⟨x162, A162, c162, H, hl, hH⟩
    generalize getL l' 7 = j7, getL l' 8 = j8, getL l' 12 = j12, getL l' 13 = j13, getL l' 14 = j14, getL l' 15 = j15, getL l' 16 = j16, getL l' 17 = j17, getL l' 18 = j18, getL l' 19 = j19, getL l' 20 = j20, getL l' 21 = j21, getL l' 22 = j22, getL l' 23 = j23, getL l' 24 = j24, getL l' 25 = j25, getL l' 26 = j26, getL l' 27 = j27, getL l' 28 = j28, getL l' 29 = j29, getL l' 30 = j30, getL l' 31 = j31, getL l' 32 = j32, getL l' 33 = j33, getL l' 34 = j34, getL l' 35 = j35, getL l' 36 = j36, getL l' 37 = j37, getL l' 38 = j38, getL l' 39 = j39, getL l' 40 = j40, getL l' 41 = j41, getL l' 42 = j42, getL l' 43 = j43, getL l' 44 = j44, getL l' 45 = j45, getL l' 46 = j46, getL l' 47 = j47, getL l' 48 = j48, getL l' 49 = j49, getL l' 50 = j50, getL l' 51 = j51, getL l' 52 = j52, getL l' 53 = j53, getL l' 54 = j54, getL l' 55 = j55, getL l' 56 = j56, getL l' 57 = j57, getL l' 58 = j58, getL l' 59 = j59, getL l' 60 = j60, getL l' 61 = j61, getL l' 62 = j62, getL l' 63 = j63, getL l' 64 = j64, getL l' 65 = j65, getL l' 66 = j66, getL l' 67 = j67, getL l' 68 = j68, getL l' 69 = j69, getL l' 70 = j70, getL l' 71 = j71, getL l' 72 = j72, getL l' 73 = j73, getL l' 74 = j74, getL l' 75 = j75, getL l' 76 = j76, getL l' 77 = j77, getL l' 78 = j78, getL l' 79 = j79, getL l' 80 = j80, getL l' 81 = j81, getL l' 82 = j82, getL l' 83 = j83, getL l' 84 = j84, getL l' 85 = j85, getL l' 86 = j86, getL l' 87 = j87, getL l' 88 = j88, getL l' 89 = j89, getL l' 90 = j90, getL l' 91 = j91, getL l' 92 = j92, getL l' 93 = j93, getL l' 94 = j94, getL l' 95 = j95, getL l' 96 = j96, getL l' 97 = j97, getL l' 98 = j98, getL l' 99 = j99, getL l' 100 = j100 at hl
    subst hl
    replace H := hG4 _ H
    try dsimp only at H
    exact hQn _ _ [] trivial (retH (fun r => impl_along_impl_CommonOf_1.post sb s F0 bp2c0 r _ _) (show some _ = some r from H) ⟨A162, c162, rfl, hH⟩)
def impl_CommonOf.f (p0 : List (Int)) (p1 : List (Int)) : Option ((List (Int)) × Bool) := (impl_areShort.f [p0, p1]).bind fun u5 => if (!u5) = true then (some ([], false)) else ((impl_along_impl_CommonOf_1.f p0 p1 ([] : List (Int))).bind fun u13 => some (u13, true))
def impl_CommonOf.post (sb s : St) (F0 : Fp) (r : (List (Int)) × Bool) : Value → St → Prop := fun v s' => ∃ (A0 : Option Addr) (c0 : Nat), v = .tuple #[.slice A0 r.1.length c0, .bool r.2] ∧ Hp sb s F0 s' [Ck.ol OI 3 A0 c0 r.1]
set_option maxRecDepth 100000 in
set_option maxHeartbeats 4000000 in
theorem impl_CommonOf.ok (sb s : St) (F0 : Fp) (A0p : Option Addr) (c0p : Nat) (p0 : List (Int)) (A1p : Option Addr) (c1p : Nat) (p1 : List (Int)) (HRp0 : Rd KI sb A0p c0p p0) (HRp1 : Rd KI sb A1p c1p p1) (hH : Hp sb s F0 s []) (r : (List (Int)) × Bool) (H : impl_CommonOf.f p0 p1 = some r) : GCall Try.prog 69 #[.slice A0p p0.length c0p, .slice A1p p1.length c1p] s (impl_CommonOf.post sb s F0 r) := by
  refine GCall_ofk [.tmp 4, .tmp 5] [.slice A0p p0.length c0p, .slice A1p p1.length c1p, undef, undef, undef, undef, undef, undef, undef, undef, undef, undef, undef, undef, undef, undef, undef, undef] Try.func69 rfl rfl rfl ?_
  intro w Q hQr hQn hQp
  replace H := topE H
  unfold impl_CommonOf.f at H
  refine HT_seq_k ?_
  intro K1 hK1
  refine HT_region ?_
  refine HL_cons rfl ?_
  refine o_assign ?_
  try dsimp only [putL, setL, evL, getL]
  refine HL_cons rfl ?_
  refine o_assign ?_
  try dsimp only [putL, setL, evL, getL]
  refine HL_nil ?_
  refine hK1 _ _ ?_
  refine HT_seq_k ?_
  intro K2 hK2
  refine HT_seq_k ?_
  intro K3 hK3
  refine HT_region ?_
  refine HL_cons rfl ?_
  refine o_move ?_
  try dsimp only [putL, setL, evL, getL]
  refine HL_cons rfl ?_
  refine o_move ?_
  try dsimp only [putL, setL, evL, getL]
  refine HL_cons rfl ?_
  refine o_litF (K := (Kd.sl KI)) (O := (Ow.lent (Kd.sl KI))) (ca := #[.slice A0p p0.length c0p, .slice A1p p1.length c1p]) [[.slice A0p p0.length c0p], [.slice A1p p1.length c1p]] [p0, p1] hH Try.underlying105 tI24 rfl (by decide) rfl rfl (by kernel_rfl) rfl ⟨rfl, Ent.own (Ent.lent ⟨_, _, rfl, HRp0⟩), rfl, Ent.own (Ent.lent ⟨_, _, rfl, HRp1⟩), trivial⟩ ?_
  intro A4 s4 hH' hG
  replace hH : Hp sb s F0 s4 [Ck.ol (Ow.lent (Kd.sl KI)) 24 A4 2 [p0, p1]] := hH'
  clear hH' hG
  try dsimp only [putL, setL, evL, getL]
  replace H := headE H
  obtain ⟨u5, hu5, H⟩ := H
  refine HL_cons rfl ?_
  refine o_call (args := #[.slice A4 [p0, p1].length 2]) Try.func99 rfl rfl rfl (impl_areShort.ok s4 s4 no A4 2 [p0, p1] (hH.rd 0 rfl) (Hp.own (Bs.refl s4)) _ hu5) ?_
  rintro _ s5 ⟨rfl, hD⟩
  replace hH := hH.back0T hD
  clear hD
  dsimp only [addC, setC, rmC, selC, getC] at hH
  try dsimp only [putL, setL, evL, getL]
  refine HL_cons rfl ?_
  refine o_not rfl ?_
  try dsimp only [putL, setL, evL, getL]
  refine HL_nil ?_
  refine hK3 _ _ ?_
  rcases Bool.eq_false_or_eq_true (!u5) with hb6 | hb6
  · replace H := iteT hb6 H
    refine HT_true (congrArg Value.bool hb6) ?_
    refine HT_seq_k ?_
    intro K7 hK7
    refine HT_region ?_
    refine HL_cons rfl ?_
    refine o_assign ?_
    try dsimp only [putL, setL, evL, getL]
    refine HL_cons rfl ?_
    refine o_assign ?_
    try dsimp only [putL, setL, evL, getL]
    refine HL_nil ?_
    refine hK7 _ _ ?_
    refine HT_ret ?_
    exact hQr _ _ [.slice none 0 0, .bool false] ⟨rfl, rfl, trivial⟩ (retH (fun r => impl_CommonOf.post sb s F0 r _ _) (show some _ = some r from H) ⟨none, 0, rfl, (hH.nil (K := KI) OI 3).sel [1] (by decide)⟩)
  · replace H := iteF hb6 H
    refine HT_false (congrArg Value.bool hb6) ?_
    refine HT_skip ?_
    refine hK2 _ _ ?_
    refine HT_seq_k ?_
    intro K8 hK8
    refine HT_region ?_
    refine HL_cons rfl ?_
    refine o_lit0H (α := Int) (K := KI) (O := OI) hH Try.underlying24 tI3 ?_
    intro A9 s9 hH' hG
    replace hH : Hp sb s F0 s9 [Ck.ol (Ow.lent (Kd.sl KI)) 24 A4 2 [p0, p1], Ck.ol OI 3 A9 0 ([] : List (Int))] := hH'
    clear hH' hG
    try dsimp only [putL, setL, evL, getL]
    refine HL_cons rfl ?_
    refine o_allocH hH tI24 ?_
    intro b10 s10 hH' hG
    replace hH : Hp sb s F0 s10 [Ck.ol (Ow.lent (Kd.sl KI)) 24 A4 2 [p0, p1], Ck.ol OI 3 A9 0 ([] : List (Int)), Ck.ov b10 [.slice none 0 0] 24] := hH'
    clear hH' hG
    try dsimp only [putL, setL, evL, getL]
    refine HL_cons rfl ?_
    refine o_stvH (vs := [.slice A9 ([] : List (Int)).length 0]) (us' := [.slice A9 ([] : List (Int)).length 0]) hH 2 rfl rfl rfl rfl rfl tI24 rfl (List.cons_ne_nil _ _) rfl rfl rfl ?_
    intro s11 hH'
    replace hH : Hp sb s F0 s11 [Ck.ol (Ow.lent (Kd.sl KI)) 24 A4 2 [p0, p1], Ck.ol OI 3 A9 0 ([] : List (Int)), Ck.ov b10 [.slice A9 ([] : List (Int)).length 0] 24] := hH'
    clear hH'
    try dsimp only [putL, setL, evL, getL]
    refine HL_nil ?_
    refine hK8 _ _ ?_
    refine HT_seq_k ?_
    intro K12 hK12
    refine HT_region ?_
    refine HL_cons rfl ?_
    refine o_move ?_
    try dsimp only [putL, setL, evL, getL]
    refine HL_cons rfl ?_
    refine o_move ?_
    try dsimp only [putL, setL, evL, getL]
    refine HL_cons rfl ?_
    refine o_func rfl rfl ?_
    try dsimp only [putL, setL, evL, getL]
    replace H := headE H
    obtain ⟨u13, hu13, H⟩ := H
    obtain ⟨F1, hA, hB⟩ := hH.take [2, 1] (by decide)
    dsimp only [addC, setC, rmC, selC, getC] at hA
    refine HL_cons rfl ?_
    refine o_call (args := #[.slice A0p p0.length c0p, .slice A1p p1.length c1p, .func (.func 160) #[] #[.pointer (some ⟨b10, 0, none⟩)]]) Try.func157 rfl rfl rfl (impl_along_impl_CommonOf_1.ok sb s11 F1 A0p c0p p0 A1p c1p p1 b10 A9 0 ([] : List (Int)) HRp0 HRp1 hA _ hu13) ?_
    rintro _ s13 ⟨A14, c14, rfl, hD⟩
    replace hH := hB _ _ _ (Up.refl _ _ _) hD
    clear hD hA hB
    dsimp only [addC, setC, rmC, selC, getC] at hH
    try dsimp only [putL, setL, evL, getL]
    refine HL_nil ?_
    refine hK12 _ _ ?_
    refine HT_seq_k ?_
    intro K15 hK15
    refine HT_region ?_
    refine HL_cons rfl ?_
    refine o_load' rfl Try.underlying24 rfl (hH.hasv 4 rfl rfl) ?_
    try dsimp only [putL, setL, evL, getL]
    refine HL_cons rfl ?_
    refine o_assign ?_
    try dsimp only [putL, setL, evL, getL]
    refine HL_cons rfl ?_
    refine o_assign ?_
    try dsimp only [putL, setL, evL, getL]
    refine HL_nil ?_
    refine hK15 _ _ ?_
    refine HT_ret ?_
    exact hQr _ _ [.slice A14 u13.length c14, .bool true] ⟨rfl, rfl, trivial⟩ (retH (fun r => impl_CommonOf.post sb s F0 r _ _) (show some _ = some r from H) ⟨A14, c14, rfl, hH.sel [3] (by decide)⟩)
def spec_CommonOf.l1 (u3 : (List ((Int) × (List (Int)))) × Bool) : Nat → (List (Int)) → Int → Option (List (Int))
  | 0, _, _ => none
  | kf + 1, x127, x128 => if (decide (x128 < (u3.1.length : Int))) = true then (((rd? u3.1 x128).bind fun u174 => if (u174.1 == 1) = true then ((app? 17592186044416 x127 u174.2).bind fun x182 => some x182) else (some x127)).bind fun (o : (List (Int))) => match o with | x172 => (spec_CommonOf.l1 u3 kf x172 (IntKind.i64.wrap (x128 + 1)))) else (some x127)
def spec_CommonOf.f (p0 : List (Int)) (p1 : List (Int)) : Option ((List (Int)) × Bool) := (spec_DiffOf.f p0 p1).bind fun u3 => if (!u3.2) = true then (some ([], false)) else ((spec_CommonOf.l1 u3 ((((u3.1.length : Int)) - (0)).toNat + 2) [] 0).bind fun (o : (List (Int))) => match o with | x98 => (some (x98, true)))
def spec_CommonOf.post (sb s : St) (F0 : Fp) (r : (List (Int)) × Bool) : Value → St → Prop := fun v s' => ∃ (A0 : Option Addr) (c0 : Nat), v = .tuple #[.slice A0 r.1.length c0, .bool r.2] ∧ Hp sb s F0 s' [Ck.ol OI 3 A0 c0 r.1]
set_option maxRecDepth 100000 in
set_option maxHeartbeats 4000000 in
theorem spec_CommonOf.ok (sb s : St) (F0 : Fp) (A0p : Option Addr) (c0p : Nat) (p0 : List (Int)) (A1p : Option Addr) (c1p : Nat) (p1 : List (Int)) (HRp0 : Rd KI sb A0p c0p p0) (HRp1 : Rd KI sb A1p c1p p1) (hH : Hp sb s F0 s []) (r : (List (Int)) × Bool) (H : spec_CommonOf.f p0 p1 = some r) : GCall Try.prog 70 #[.slice A0p p0.length c0p, .slice A1p p1.length c1p] s (spec_CommonOf.post sb s F0 r) := by
  refine GCall_ofk [.tmp 4, .tmp 5] [.slice A0p p0.length c0p, .slice A1p p1.length c1p, undef, undef, undef, undef, undef, undef, undef, undef, undef, undef, undef, undef, undef, undef, undef, undef, undef, undef, undef, undef, undef, undef, undef, undef, undef, undef, undef, undef, undef, undef, undef, undef] Try.func70 rfl rfl rfl ?_
  intro w Q hQr hQn hQp
  replace H := topE H
  unfold spec_CommonOf.f at H
  refine HT_seq_k ?_
  intro K1 hK1
  refine HT_region ?_
  refine HL_cons rfl ?_
  refine o_assign ?_
  try dsimp only [putL, setL, evL, getL]
  refine HL_cons rfl ?_
  refine o_assign ?_
  try dsimp only [putL, setL, evL, getL]
  refine HL_nil ?_
  refine hK1 _ _ ?_
  refine HT_seq_k ?_
  intro K2 hK2
  refine HT_region ?_
  refine HL_cons rfl ?_
  refine o_move ?_
  try dsimp only [putL, setL, evL, getL]
  refine HL_cons rfl ?_
  refine o_move ?_
  try dsimp only [putL, setL, evL, getL]
  replace H := headE H
  obtain ⟨u3, hu3, H⟩ := H
  refine HL_cons rfl ?_
  refine o_call (args := #[.slice A0p p0.length c0p, .slice A1p p1.length c1p]) Try.func68 rfl rfl rfl (spec_DiffOf.ok sb s no A0p c0p p0 A1p c1p p1 HRp0 HRp1 (Hp.own hH.bs) _ hu3) ?_
  rintro _ s3 ⟨A4, c4, rfl, hD⟩
  replace hH := hH.back0 hD (Up.refl _ _ _)
  clear hD
  dsimp only [addC, setC, rmC, selC, getC] at hH
  try dsimp only [putL, setL, evL, getL]
  refine HL_cons rfl ?_
  refine o_move ?_
  try dsimp only [putL, setL, evL, getL]
  refine HL_cons rfl ?_
  refine o_extract rfl rfl ?_
  try dsimp only [putL, setL, evL, getL]
  refine HL_cons rfl ?_
  refine o_extract rfl rfl ?_
  try dsimp only [putL, setL, evL, getL]
  refine HL_cons rfl ?_
  refine o_assign ?_
  try dsimp only [putL, setL, evL, getL]
  refine HL_cons rfl ?_
  refine o_assign ?_
  try dsimp only [putL, setL, evL, getL]
  refine HL_nil ?_
  refine hK2 _ _ ?_
  refine HT_seq_k ?_
  intro K5 hK5
  refine HT_seq_k ?_
  intro K6 hK6
  refine HT_region ?_
  refine HL_cons rfl ?_
  refine o_move ?_
  try dsimp only [putL, setL, evL, getL]
  refine HL_cons rfl ?_
  refine o_not rfl ?_
  try dsimp only [putL, setL, evL, getL]
  refine HL_nil ?_
  refine hK6 _ _ ?_
  rcases Bool.eq_false_or_eq_true (!u3.2) with hb7 | hb7
  · replace H := iteT hb7 H
    refine HT_true (congrArg Value.bool hb7) ?_
    refine HT_seq_k ?_
    intro K8 hK8
    refine HT_region ?_
    refine HL_cons rfl ?_
    refine o_assign ?_
    try dsimp only [putL, setL, evL, getL]
    refine HL_cons rfl ?_
    refine o_assign ?_
    try dsimp only [putL, setL, evL, getL]
    refine HL_nil ?_
    refine hK8 _ _ ?_
    refine HT_ret ?_
    exact hQr _ _ [.slice none 0 0, .bool false] ⟨rfl, rfl, trivial⟩ (retH (fun r => spec_CommonOf.post sb s F0 r _ _) (show some _ = some r from H) ⟨none, 0, rfl, (hH.nil (K := KI) OI 3).sel [1] (by decide)⟩)
  · replace H := iteF hb7 H
    refine HT_false (congrArg Value.bool hb7) ?_
    refine HT_skip ?_
    refine hK5 _ _ ?_
    refine HT_seq_k ?_
    intro K9 hK9
    refine HT_region ?_
    refine HL_cons rfl ?_
    refine o_assign ?_
    try dsimp only [putL, setL, evL, getL]
    refine HL_nil ?_
    refine hK9 _ _ ?_
    refine HT_seq_k ?_
    intro K10 hK10
    refine HT_seq_k ?_
    intro K11 hK11
    refine HT_region ?_
    refine HL_cons rfl ?_
    refine o_move ?_
    try dsimp only [putL, setL, evL, getL]
    refine HL_cons rfl ?_
    refine o_len rfl Try.underlying85 ?_
    try dsimp only [putL, setL, evL, getL]
    refine HL_cons rfl ?_
    refine o_move ?_
    try dsimp only [putL, setL, evL, getL]
    refine HL_nil ?_
    refine hK11 _ _ ?_
    refine joinH H fun G12 hG12 H => ?_
    refine HT_toK (fun l' s' => ∃ (x98 : List (Int)) (A98 : Option Addr) (c98 : Nat), G12 x98 = some r ∧ l' = [.slice A0p p0.length c0p, .slice A1p p1.length c1p, undef, undef, .slice none 0 0, .bool false, .slice A4 u3.1.length c4, .bool u3.2, .slice A98 x98.length c98, undef, getL l' 10, .tuple #[.slice A4 u3.1.length c4, .bool u3.2], .slice A0p p0.length c0p, .slice A1p p1.length c1p, .tuple #[.slice A4 u3.1.length c4, .bool u3.2], .slice A4 u3.1.length c4, .bool u3.2, .bool u3.2, .bool (!u3.2), .slice A4 u3.1.length c4, .int .i64 (u3.1.length : Int), getL l' 21, getL l' 22, getL l' 23, getL l' 24, getL l' 25, getL l' 26, getL l' 27, getL l' 28, getL l' 29, getL l' 30, getL l' 31, getL l' 32, undef] ∧ Hp sb s F0 s' [Ck.ol OI 3 A98 c98 x98]) ?_ ?_
    · intro K12 hK12
      refine HT_block ?_
      refine HT_loopK (fun kf l' s' => ∃ (x127 : List (Int)) (A127 : Option Addr) (c127 : Nat) (x128 : Int), (spec_CommonOf.l1 u3 kf x127 x128).bind G12 = some r ∧ l' = [.slice A0p p0.length c0p, .slice A1p p1.length c1p, undef, undef, .slice none 0 0, .bool false, .slice A4 u3.1.length c4, .bool u3.2, .slice A127 x127.length c127, undef, getL l' 10, .tuple #[.slice A4 u3.1.length c4, .bool u3.2], .slice A0p p0.length c0p, .slice A1p p1.length c1p, .tuple #[.slice A4 u3.1.length c4, .bool u3.2], .slice A4 u3.1.length c4, .bool u3.2, .bool u3.2, .bool (!u3.2), .slice A4 u3.1.length c4, .int .i64 (u3.1.length : Int), .int .i64 x128, getL l' 22, getL l' 23, getL l' 24, getL l' 25, getL l' 26, getL l' 27, getL l' 28, getL l' 29, getL l' 30, getL l' 31, getL l' 32, undef] ∧ Hp sb s F0 s' [Ck.ol OI 3 A127 c127 x127, Ck.ol OS170 170 A4 c4 u3.1]) ((((u3.1.length : Int)) - (0)).toNat + 2) ⟨[], none, 0, 0, H, rfl, (hH.nil (K := KI) OI 3).sel [1, 0] (by decide)⟩ ?_
      rintro kf l' s157 ⟨x127, A127, c127, x128, H, hl, hH⟩ K157 hK157
      generalize getL l' 10 = j10, getL l' 22 = j22, getL l' 23 = j23, getL l' 24 = j24, getL l' 25 = j25, getL l' 26 = j26, getL l' 27 = j27, getL l' 28 = j28, getL l' 29 = j29, getL l' 30 = j30, getL l' 31 = j31, getL l' 32 = j32 at hl
      subst hl
      cases kf with
      | zero => simp [spec_CommonOf.l1] at H
      | succ kf =>
        rw [spec_CommonOf.l1] at H
        refine HT_seq_k ?_
        intro K158 hK158
        refine HT_region ?_
        refine HL_cons rfl ?_
        refine o_bin rfl rfl rfl ?_
        try dsimp only [putL, setL, evL, getL]
        refine HL_nil ?_
        refine hK158 _ _ ?_
        refine HT_seq_k ?_
        intro K159 hK159
        rcases Bool.eq_false_or_eq_true (decide (x128 < (u3.1.length : Int))) with hb160 | hb160
        · replace H := iteT hb160 H
          refine HT_true (congrArg Value.bool hb160) ?_
          refine HT_skip ?_
          refine hK159 _ _ ?_
          refine joinH H fun G161 hG161 H => ?_
          refine HT_joinK (fun l' s' => ∃ (x172 : List (Int)) (A172 : Option Addr) (c172 : Nat), G161 x172 = some r ∧ l' = [.slice A0p p0.length c0p, .slice A1p p1.length c1p, undef, undef, .slice none 0 0, .bool false, .slice A4 u3.1.length c4, .bool u3.2, .slice A172 x172.length c172, undef, getL l' 10, .tuple #[.slice A4 u3.1.length c4, .bool u3.2], .slice A0p p0.length c0p, .slice A1p p1.length c1p, .tuple #[.slice A4 u3.1.length c4, .bool u3.2], .slice A4 u3.1.length c4, .bool u3.2, .bool u3.2, .bool (!u3.2), .slice A4 u3.1.length c4, .int .i64 (u3.1.length : Int), .int .i64 x128, .bool (decide (x128 < (u3.1.length : Int))), getL l' 23, getL l' 24, getL l' 25, getL l' 26, getL l' 27, getL l' 28, getL l' 29, getL l' 30, getL l' 31, j32, undef] ∧ Hp sb s F0 s' [Ck.ol OI 3 A172 c172 x172, Ck.ol OS170 170 A4 c4 u3.1]) ?_ ?_
          · intro K161 hK161
            refine HT_block ?_
            refine HT_seq_k ?_
            intro K173 hK173
            refine HT_region ?_
            replace H := headE H
            obtain ⟨u174, hu174, H⟩ := H
            obtain ⟨b174, o174, vs174, hA174, -, hH⟩ := hH.open 1 rfl rfl hu174
            dsimp only [addC, setC, rmC, selC, getC] at hH
            obtain ⟨v175, v176, rfl, hH⟩ := hH.el_pair 2 rfl rfl
            dsimp only [addC, setC, rmC, selC, getC] at hH
            obtain rfl := hH.el_rep 2 rfl
            replace hH := hH.drop 2 rfl
            dsimp only [addC, setC, rmC, selC, getC] at hH
            obtain ⟨A177, c177, rfl, hH⟩ := hH.el_sl 3 rfl rfl
            dsimp only [addC, setC, rmC, selC, getC] at hH
            replace hH : Hp sb s F0 s157 [Ck.ol OI 3 A127 c127 x127, Ck.oh OS170 170 A4 c4 u3.1 (Int.toNat x128) [.int .i64 u174.1, .slice A177 u174.2.length c177], Ck.emp, Ck.ol OI 3 A177 c177 u174.2] := hH
            refine HL_cons rfl ?_
            refine iaddr_of (K := KS170) hA174 hu174 s157 rfl rfl Try.underlying85 tI170 ?_
            try dsimp only [putL, setL, evL, getL]
            refine HL_cons rfl ?_
            refine o_loads' [.int .i64 u174.1, .slice A177 u174.2.length c177] rfl Try.underlying170 rfl tI170 rfl (fun j v hj => hH.hasoh 1 rfl hA174 j v hj) ?_
            try dsimp only [putL, setL, evL, getL]
            refine HL_cons rfl ?_
            refine o_allocH hH tI170 ?_
            intro b178 s178 hH' hG
            replace hH : Hp sb s F0 s178 [Ck.ol OI 3 A127 c127 x127, Ck.oh OS170 170 A4 c4 u3.1 (Int.toNat x128) [.int .i64 u174.1, .slice A177 u174.2.length c177], Ck.emp, Ck.ol OI 3 A177 c177 u174.2, Ck.ov b178 [.int .i64 0, .slice none 0 0] 170] := hH'
            clear hH' hG
            try dsimp only [putL, setL, evL, getL]
            refine HL_cons rfl ?_
            refine o_stvH (vs := [.int .i64 u174.1, .slice A177 u174.2.length c177]) (us' := [.int .i64 u174.1, .slice A177 u174.2.length c177]) hH 4 rfl rfl rfl rfl rfl tI170 rfl (List.cons_ne_nil _ _) rfl rfl rfl ?_
            intro s179 hH'
            replace hH : Hp sb s F0 s179 [Ck.ol OI 3 A127 c127 x127, Ck.oh OS170 170 A4 c4 u3.1 (Int.toNat x128) [.int .i64 u174.1, .slice A177 u174.2.length c177], Ck.emp, Ck.ol OI 3 A177 c177 u174.2, Ck.ov b178 [.int .i64 u174.1, .slice A177 u174.2.length c177] 170] := hH'
            clear hH'
            try dsimp only [putL, setL, evL, getL]
            refine HL_nil ?_
            refine hK173 _ _ ?_
            refine HT_seq_k ?_
            intro K180 hK180
            refine HT_region ?_
            refine HL_cons rfl ?_
            refine o_faddr' (ft := 3) (off := 0) rfl Try.underlying170 rfl tI3 (by decide) ?_
            try dsimp only [putL, setL, evL, getL]
            refine HL_cons rfl ?_
            refine o_load' rfl Try.underlying3 rfl (hH.hasv 4 rfl rfl) ?_
            try dsimp only [putL, setL, evL, getL]
            refine HL_cons rfl ?_
            refine o_bin rfl rfl rfl ?_
            try dsimp only [putL, setL, evL, getL]
            refine HL_nil ?_
            refine hK180 _ _ ?_
            rcases Bool.eq_false_or_eq_true (u174.1 == 1) with hb181 | hb181
            · replace H := iteT hb181 H
              refine HT_true (congrArg Value.bool hb181) ?_
              refine HT_region ?_
              refine HL_cons rfl ?_
              refine o_move ?_
              try dsimp only [putL, setL, evL, getL]
              refine HL_cons rfl ?_
              refine o_faddr' (ft := 24) (off := 1) rfl Try.underlying170 rfl tI24 (by decide) ?_
              try dsimp only [putL, setL, evL, getL]
              refine HL_cons rfl ?_
              refine o_load' rfl Try.underlying24 rfl (hH.hasv 4 rfl rfl) ?_
              try dsimp only [putL, setL, evL, getL]
              replace H := headE H
              obtain ⟨x182, hx182, H⟩ := H
              refine HL_cons rfl ?_
              refine o_appF (K := KI) (n := 17592186044416) (A := A127) (c := c127) (xs := x127) (ys := u174.2) (B := A177) (c2 := c177) hH 0 rfl rfl rfl rfl Try.underlying24 tI3 rfl (by decide) (by decide) (by decide) (Src.flat (hH.rd 3 rfl)) hx182 ?_
              intro A182 c182 s182 hH'
              replace hH : Hp sb s F0 s182 [Ck.ol OI 3 A182 c182 x182, Ck.oh OS170 170 A4 c4 u3.1 (Int.toNat x128) [.int .i64 u174.1, .slice A177 u174.2.length c177], Ck.emp, Ck.ol OI 3 A177 c177 u174.2, Ck.ov b178 [.int .i64 u174.1, .slice A177 u174.2.length c177] 170] := hH'
              clear hH'
              try dsimp only [putL, setL, evL, getL]
              refine HL_cons rfl ?_
              refine o_assign ?_
              try dsimp only [putL, setL, evL, getL]
              refine HL_nil ?_
              replace hH := hH.conv [3] (by decide) (d := Ck.el OS170 [.int .i64 u174.1, .slice A177 u174.2.length c177] (u174.1, u174.2)) (Ent.pair (v1 := [.int .i64 u174.1]) (v2 := [.slice A177 u174.2.length c177]) (x1 := u174.1) (x2 := u174.2) (Ent.flat rfl) Ent.sl)
              dsimp only [addC, setC, rmC, selC, getC] at hH
              replace hH := hH.close (i := x128) 1 5 (by decide) rfl rfl rfl (st?_same hu174)
              dsimp only [addC, setC, rmC, selC, getC] at hH
              replace hH : Hp sb s F0 s182 [Ck.ol OI 3 A182 c182 x182, Ck.ol OS170 170 A4 c4 u3.1, Ck.emp, Ck.emp, Ck.ov b178 [.int .i64 u174.1, .slice A177 u174.2.length c177] 170, Ck.emp] := hH
              exact hK161 _ _ ⟨x182, A182, c182, H, rfl, hH.sel [0, 1] (by decide)⟩
            · replace H := iteF hb181 H
              refine HT_false (congrArg Value.bool hb181) ?_
              refine HT_skip ?_
              replace hH := hH.conv [3] (by decide) (d := Ck.el OS170 [.int .i64 u174.1, .slice A177 u174.2.length c177] (u174.1, u174.2)) (Ent.pair (v1 := [.int .i64 u174.1]) (v2 := [.slice A177 u174.2.length c177]) (x1 := u174.1) (x2 := u174.2) (Ent.flat rfl) Ent.sl)
              dsimp only [addC, setC, rmC, selC, getC] at hH
              replace hH := hH.close (i := x128) 1 5 (by decide) rfl rfl rfl (st?_same hu174)
              dsimp only [addC, setC, rmC, selC, getC] at hH
              replace hH : Hp sb s F0 s179 [Ck.ol OI 3 A127 c127 x127, Ck.ol OS170 170 A4 c4 u3.1, Ck.emp, Ck.emp, Ck.ov b178 [.int .i64 u174.1, .slice A177 u174.2.length c177] 170, Ck.emp] := hH
              exact hK161 _ _ ⟨x127, A127, c127, H, rfl, hH.sel [0, 1] (by decide)⟩
          · rintro l' s183 ⟨x172, A172, c172, H, hl, hH⟩
            generalize getL l' 10 = j10, getL l' 23 = j23, getL l' 24 = j24, getL l' 25 = j25, getL l' 26 = j26, getL l' 27 = j27, getL l' 28 = j28, getL l' 29 = j29, getL l' 30 = j30, getL l' 31 = j31 at hl
            subst hl
            replace H := hG161 _ H
            try dsimp only at H
            refine HT_region ?_
            refine HL_cons rfl ?_
            refine o_bin rfl rfl rfl ?_
            try dsimp only [putL, setL, evL, getL]
            refine HL_cons rfl ?_
            refine o_move ?_
            try dsimp only [putL, setL, evL, getL]
            refine HL_nil ?_
            exact hK157 _ _ ⟨kf, Nat.lt_succ_self kf, x172, A172, c172, IntKind.i64.wrap (x128 + 1), H, rfl, hH⟩
        · replace H := iteF hb160 H
          refine HT_false (congrArg Value.bool hb160) ?_
          refine HT_exit ?_
          exact hK12 _ _ ⟨x127, A127, c127, H, rfl, hH.sel [0] (by decide)⟩
    · rintro l' s184 ⟨x98, A98, c98, H, hl, hH⟩
      generalize getL l' 10 = j10, getL l' 21 = j21, getL l' 22 = j22, getL l' 23 = j23, getL l' 24 = j24, getL l' 25 = j25, getL l' 26 = j26, getL l' 27 = j27, getL l' 28 = j28, getL l' 29 = j29, getL l' 30 = j30, getL l' 31 = j31, getL l' 32 = j32 at hl
      subst hl
      replace H := hG12 _ H
      try dsimp only at H
      refine hK10 _ _ ?_
      refine HT_seq_k ?_
      intro K185 hK185
      refine HT_region ?_
      refine HL_cons rfl ?_
      refine o_move ?_
      try dsimp only [putL, setL, evL, getL]
      refine HL_cons rfl ?_
      refine o_assign ?_
      try dsimp only [putL, setL, evL, getL]
      refine HL_cons rfl ?_
      refine o_assign ?_
      try dsimp only [putL, setL, evL, getL]
      refine HL_nil ?_
      refine hK185 _ _ ?_
      refine HT_ret ?_
      exact hQr _ _ [.slice A98 x98.length c98, .bool true] ⟨rfl, rfl, trivial⟩ (retH (fun r => spec_CommonOf.post sb s F0 r _ _) (show some _ = some r from H) ⟨A98, c98, rfl, hH⟩)
def laws_sameInts.l1 (p0 : List (Int)) (p1 : List (Int)) : Nat → Int → Option (Lo Unit Bool)
  | 0, _ => none
  | kf + 1, x52 => if (decide (x52 < (p0.length : Int))) = true then ((rd? p0 x52).bind fun u71 => (rd? p1 x52).bind fun u72 => if (u71 != u72) = true then ((some false).bind fun z => some (Lo.ret z)) else (laws_sameInts.l1 p0 p1 kf (IntKind.i64.wrap (x52 + 1)))) else (some (Lo.go ()))
def laws_sameInts.f (p0 : List (Int)) (p1 : List (Int)) : Option Bool := if ((p0.length : Int) != (p1.length : Int)) = true then (some false) else ((laws_sameInts.l1 p0 p1 ((((p0.length : Int)) - (0)).toNat + 2) 0).bind fun (o : Lo Unit Bool) => match o with | .go () => (some true) | .ret z => some z)
def laws_sameInts.post (sb s : St) (F0 : Fp) (r : Bool) : Value → St → Prop := fun v s' => v = .bool r ∧ Hp sb s F0 s' []
set_option maxRecDepth 100000 in
set_option maxHeartbeats 4000000 in
theorem laws_sameInts.ok (sb s : St) (F0 : Fp) (A0p : Option Addr) (c0p : Nat) (p0 : List (Int)) (A1p : Option Addr) (c1p : Nat) (p1 : List (Int)) (HRp0 : Rd KI sb A0p c0p p0) (HRp1 : Rd KI sb A1p c1p p1) (hH : Hp sb s F0 s []) (r : Bool) (H : laws_sameInts.f p0 p1 = some r) : GCall Try.prog 18 #[.slice A0p p0.length c0p, .slice A1p p1.length c1p] s (laws_sameInts.post sb s F0 r) := by
  refine GCall_ofk [.tmp 4] [.slice A0p p0.length c0p, .slice A1p p1.length c1p, undef, undef, undef, undef, undef, undef, undef, undef, undef, undef, undef, undef, undef, undef, undef, undef, undef, undef, undef, undef, undef, undef, undef, undef] Try.func18 rfl rfl rfl ?_
  intro w Q hQr hQn hQp
  replace H := topE H
  unfold laws_sameInts.f at H
  refine HT_seq_k ?_
  intro K1 hK1
  refine HT_region ?_
  refine HL_cons rfl ?_
  refine o_assign ?_
  try dsimp only [putL, setL, evL, getL]
  refine HL_nil ?_
  refine hK1 _ _ ?_
  refine HT_seq_k ?_
  intro K2 hK2
  refine HT_seq_k ?_
  intro K3 hK3
  refine HT_region ?_
  refine HL_cons rfl ?_
  refine o_move ?_
  try dsimp only [putL, setL, evL, getL]
  refine HL_cons rfl ?_
  refine o_len rfl Try.underlying24 ?_
  try dsimp only [putL, setL, evL, getL]
  refine HL_cons rfl ?_
  refine o_move ?_
  try dsimp only [putL, setL, evL, getL]
  refine HL_cons rfl ?_
  refine o_len rfl Try.underlying24 ?_
  try dsimp only [putL, setL, evL, getL]
  refine HL_cons rfl ?_
  refine o_bin rfl rfl rfl ?_
  try dsimp only [putL, setL, evL, getL]
  refine HL_nil ?_
  refine hK3 _ _ ?_
  rcases Bool.eq_false_or_eq_true ((p0.length : Int) != (p1.length : Int)) with hb4 | hb4
  · replace H := iteT hb4 H
    refine HT_true (congrArg Value.bool hb4) ?_
    refine HT_seq_k ?_
    intro K5 hK5
    refine HT_region ?_
    refine HL_cons rfl ?_
    refine o_assign ?_
    try dsimp only [putL, setL, evL, getL]
    refine HL_nil ?_
    refine hK5 _ _ ?_
    refine HT_ret ?_
    exact hQr _ _ [.bool false] ⟨rfl, trivial⟩ (retH (fun r => laws_sameInts.post sb s F0 r _ _) (show some _ = some r from H) ⟨rfl, hH⟩)
  · replace H := iteF hb4 H
    refine HT_false (congrArg Value.bool hb4) ?_
    refine HT_skip ?_
    refine hK2 _ _ ?_
    refine HT_seq_k ?_
    intro K6 hK6
    refine HT_seq_k ?_
    intro K7 hK7
    refine HT_region ?_
    refine HL_cons rfl ?_
    refine o_move ?_
    try dsimp only [putL, setL, evL, getL]
    refine HL_cons rfl ?_
    refine o_len rfl Try.underlying24 ?_
    try dsimp only [putL, setL, evL, getL]
    refine HL_cons rfl ?_
    refine o_move ?_
    try dsimp only [putL, setL, evL, getL]
    refine HL_nil ?_
    refine hK7 _ _ ?_
    refine joinH H fun G8 hG8 H => ?_
    refine HT_toK (fun l' s' => G8 (.go ()) = some r ∧ l' = [.slice A0p p0.length c0p, .slice A1p p1.length c1p, undef, undef, getL l' 4, getL l' 5, .slice A0p p0.length c0p, .int .i64 (p0.length : Int), .slice A1p p1.length c1p, .int .i64 (p1.length : Int), .bool ((p0.length : Int) != (p1.length : Int)), .slice A0p p0.length c0p, .int .i64 (p0.length : Int), getL l' 13, getL l' 14, getL l' 15, getL l' 16, getL l' 17, getL l' 18, getL l' 19, getL l' 20, getL l' 21, getL l' 22, getL l' 23, getL l' 24, getL l' 25] ∧ Hp sb s F0 s' []) ?_ ?_
    · intro K8 hK8
      refine HT_block ?_
      refine HT_loopK (fun kf l' s' => ∃ (x52 : Int), (laws_sameInts.l1 p0 p1 kf x52).bind G8 = some r ∧ l' = [.slice A0p p0.length c0p, .slice A1p p1.length c1p, undef, undef, getL l' 4, getL l' 5, .slice A0p p0.length c0p, .int .i64 (p0.length : Int), .slice A1p p1.length c1p, .int .i64 (p1.length : Int), .bool ((p0.length : Int) != (p1.length : Int)), .slice A0p p0.length c0p, .int .i64 (p0.length : Int), .int .i64 x52, getL l' 14, getL l' 15, getL l' 16, getL l' 17, getL l' 18, getL l' 19, getL l' 20, getL l' 21, getL l' 22, getL l' 23, getL l' 24, getL l' 25] ∧ Hp sb s F0 s' []) ((((p0.length : Int)) - (0)).toNat + 2) ⟨0, H, rfl, hH⟩ ?_
      rintro kf l' s64 ⟨x52, H, hl, hH⟩ K64 hK64
      generalize getL l' 4 = j4, getL l' 5 = j5, getL l' 14 = j14, getL l' 15 = j15, getL l' 16 = j16, getL l' 17 = j17, getL l' 18 = j18, getL l' 19 = j19, getL l' 20 = j20, getL l' 21 = j21, getL l' 22 = j22, getL l' 23 = j23, getL l' 24 = j24, getL l' 25 = j25 at hl
      subst hl
      cases kf with
      | zero => simp [laws_sameInts.l1] at H
      | succ kf =>
        rw [laws_sameInts.l1] at H
        refine HT_seq_k ?_
        intro K65 hK65
        refine HT_region ?_
        refine HL_cons rfl ?_
        refine o_bin rfl rfl rfl ?_
        try dsimp only [putL, setL, evL, getL]
        refine HL_nil ?_
        refine hK65 _ _ ?_
        refine HT_seq_k ?_
        intro K66 hK66
        rcases Bool.eq_false_or_eq_true (decide (x52 < (p0.length : Int))) with hb67 | hb67
        · replace H := iteT hb67 H
          refine HT_true (congrArg Value.bool hb67) ?_
          refine HT_skip ?_
          refine hK66 _ _ ?_
          refine HT_seq_k ?_
          intro K68 hK68
          refine HT_block ?_
          refine HT_seq_k ?_
          intro K69 hK69
          refine HT_region ?_
          refine HL_cons rfl ?_
          refine o_move ?_
          try dsimp only [putL, setL, evL, getL]
          refine HL_cons rfl ?_
          refine o_assign ?_
          try dsimp only [putL, setL, evL, getL]
          refine HL_nil ?_
          refine hK69 _ _ ?_
          refine HT_seq_k ?_
          intro K70 hK70
          refine HX_draw hMix ?_
          refine HX_lim (R := fun _ => True) (k := 0) (fun s' => Gro s64 s') 10 ?_
          have hR := Gro.refl s64
          have hH0 := hH
          refine HK_readP 0 (v := .slice A0p p0.length c0p) rfl (by kernel_rfl) (fun c l s h => hQp c l s h) rfl (fun s' K hK => ?_) rfl rfl (fun _ => hR) ?_
          · refine o_move ?_
            exact hK
          try dsimp only [putL, setL, evL, getL]
          refine HK_readP 1 (v := .int .i64 x52) rfl (by kernel_rfl) (fun c l s h => hQp c l s h) rfl (fun s' K hK => ?_) rfl rfl (fun _ => hR) ?_
          · refine o_move ?_
            exact hK
          try dsimp only [putL, setL, evL, getL]
          replace H := headE H
          obtain ⟨u71, hu71, H⟩ := H
          obtain ⟨b71, o71, cs71, hr71, hh71, hel71⟩ := Rd.elb HRp0 hu71
          obtain rfl := hr71
          refine HK_readP 2 (v := .pointer (some ⟨b71, o71, none⟩)) rfl (by kernel_rfl) (fun c l s h => hQp c l s h) rfl (fun s' K hK => ?_) rfl rfl (fun _ => hR) ?_
          · refine hel71 s' rfl rfl Try.underlying24 tI3 ?_
            exact hK
          try dsimp only [putL, setL, evL, getL]
          refine HK_read 3 (v := .int .i64 u71) rfl (by kernel_rfl) (fun c l s h => hQp c l s h) rfl (fun s' hR' K hK => ?_) rfl rfl hR ?_
          · refine o_load' rfl Try.underlying3 rfl ((hh71 (hH0.bs.mono.trans hR'.mono)) 0 _ rfl) ?_
            exact hK
          try dsimp only [putL, setL, evL, getL]
          refine HK_readP 4 (v := .slice A1p p1.length c1p) rfl (by kernel_rfl) (fun c l s h => hQp c l s h) rfl (fun s' K hK => ?_) rfl rfl (fun _ => hR) ?_
          · refine o_move ?_
            exact hK
          try dsimp only [putL, setL, evL, getL]
          refine HK_readP 5 (v := .int .i64 x52) rfl (by kernel_rfl) (fun c l s h => hQp c l s h) rfl (fun s' K hK => ?_) rfl rfl (fun _ => hR) ?_
          · refine o_move ?_
            exact hK
          try dsimp only [putL, setL, evL, getL]
          replace H := headE H
          obtain ⟨u72, hu72, H⟩ := H
          obtain ⟨b72, o72, cs72, hr72, hh72, hel72⟩ := Rd.elb HRp1 hu72
          obtain rfl := hr72
          refine HK_readP 6 (v := .pointer (some ⟨b72, o72, none⟩)) rfl (by kernel_rfl) (fun c l s h => hQp c l s h) rfl (fun s' K hK => ?_) rfl rfl (fun _ => hR) ?_
          · refine hel72 s' rfl rfl Try.underlying24 tI3 ?_
            exact hK
          try dsimp only [putL, setL, evL, getL]
          refine HK_read 7 (v := .int .i64 u72) rfl (by kernel_rfl) (fun c l s h => hQp c l s h) rfl (fun s' hR' K hK => ?_) rfl rfl hR ?_
          · refine o_load' rfl Try.underlying3 rfl ((hh72 (hH0.bs.mono.trans hR'.mono)) 0 _ rfl) ?_
            exact hK
          try dsimp only [putL, setL, evL, getL]
          refine HK_readP 8 (v := .bool (u71 != u72)) rfl (by kernel_rfl) (fun c l s h => hQp c l s h) rfl (fun s' K hK => ?_) rfl rfl (fun _ => hR) ?_
          · refine o_bin rfl rfl rfl ?_
            exact hK
          try dsimp only [putL, setL, evL, getL]
          refine HK_done (fun _ => hR) (by kernel_rfl) ?_
          refine hK70 _ _ ?_
          rcases Bool.eq_false_or_eq_true (u71 != u72) with hb73 | hb73
          · replace H := iteT hb73 H
            refine HT_true (congrArg Value.bool hb73) ?_
            refine HT_seq_k ?_
            intro K74 hK74
            refine HT_region ?_
            refine HL_cons rfl ?_
            refine o_assign ?_
            try dsimp only [putL, setL, evL, getL]
            refine HL_nil ?_
            refine hK74 _ _ ?_
            refine HT_ret ?_
            replace H := escH (fun z hz => hG8 _ hz) H
            exact hQr _ _ [.bool false] ⟨rfl, trivial⟩ (retH (fun r => laws_sameInts.post sb s F0 r _ _) (show some _ = some r from H) ⟨rfl, hH⟩)
          · replace H := iteF hb73 H
            refine HT_false (congrArg Value.bool hb73) ?_
            refine HT_skip ?_
            refine hK68 _ _ ?_
            refine HT_region ?_
            refine HL_cons rfl ?_
            refine o_bin rfl rfl rfl ?_
            try dsimp only [putL, setL, evL, getL]
            refine HL_cons rfl ?_
            refine o_move ?_
            try dsimp only [putL, setL, evL, getL]
            refine HL_nil ?_
            exact hK64 _ _ ⟨kf, Nat.lt_succ_self kf, IntKind.i64.wrap (x52 + 1), H, rfl, hH⟩
        · replace H := iteF hb67 H
          refine HT_false (congrArg Value.bool hb67) ?_
          refine HT_exit ?_
          exact hK8 _ _ ⟨H, rfl, hH⟩
    · rintro l' s75 ⟨H, hl, hH⟩
      generalize getL l' 4 = j4, getL l' 5 = j5, getL l' 13 = j13, getL l' 14 = j14, getL l' 15 = j15, getL l' 16 = j16, getL l' 17 = j17, getL l' 18 = j18, getL l' 19 = j19, getL l' 20 = j20, getL l' 21 = j21, getL l' 22 = j22, getL l' 23 = j23, getL l' 24 = j24, getL l' 25 = j25 at hl
      subst hl
      replace H := hG8 _ H
      try dsimp only at H
      refine hK6 _ _ ?_
      refine HT_seq_k ?_
      intro K76 hK76
      refine HT_region ?_
      refine HL_cons rfl ?_
      refine o_assign ?_
      try dsimp only [putL, setL, evL, getL]
      refine HL_nil ?_
      refine hK76 _ _ ?_
      refine HT_ret ?_
      exact hQr _ _ [.bool true] ⟨rfl, trivial⟩ (retH (fun r => laws_sameInts.post sb s F0 r _ _) (show some _ = some r from H) ⟨rfl, hH⟩)
def laws_sameEdits.l1 (p0 : List ((Int) × (List (Int)))) (p1 : List ((Int) × (List (Int)))) : Nat → Int → Option (Lo Unit Bool)
  | 0, _ => none
  | kf + 1, x240 => if (decide (x240 < (p0.length : Int))) = true then (((rd? p0 x240).bind fun u344 => (rd? p1 x240).bind fun u346 => if (u344.1 != u346.1) = true then (some true) else ((rd? p0 x240).bind fun u349 => (rd? p1 x240).bind fun u351 => (laws_sameInts.f u349.2 u351.2).bind fun u353 => some (!u353))).bind fun (o : Bool) => match o with | x343 => (if x343 = true then ((some false).bind fun z => some (Lo.ret z)) else (laws_sameEdits.l1 p0 p1 kf (IntKind.i64.wrap (x240 + 1))))) else (some (Lo.go ()))
def laws_sameEdits.f (p0 : List ((Int) × (List (Int)))) (p1 : List ((Int) × (List (Int)))) : Option Bool := if ((p0.length : Int) != (p1.length : Int)) = true then (some false) else ((laws_sameEdits.l1 p0 p1 ((((p0.length : Int)) - (0)).toNat + 2) 0).bind fun (o : Lo Unit Bool) => match o with | .go () => (some true) | .ret z => some z)
def laws_sameEdits.post (sb s : St) (F0 : Fp) (r : Bool) : Value → St → Prop := fun v s' => v = .bool r ∧ Hp sb s F0 s' []
set_option maxRecDepth 100000 in
set_option maxHeartbeats 4000000 in
theorem laws_sameEdits.ok (sb s : St) (F0 : Fp) (A0p : Option Addr) (c0p : Nat) (p0 : List ((Int) × (List (Int)))) (A1p : Option Addr) (c1p : Nat) (p1 : List ((Int) × (List (Int)))) (HRp0 : Rd KS170 sb A0p c0p p0) (HRp1 : Rd KS170 sb A1p c1p p1) (hH : Hp sb s F0 s []) (r : Bool) (H : laws_sameEdits.f p0 p1 = some r) : GCall Try.prog 71 #[.slice A0p p0.length c0p, .slice A1p p1.length c1p] s (laws_sameEdits.post sb s F0 r) := by
  refine GCall_ofk [.tmp 4] [.slice A0p p0.length c0p, .slice A1p p1.length c1p, undef, undef, undef, undef, undef, undef, undef, undef, undef, undef, undef, undef, undef, undef, undef, undef, undef, undef, undef, undef, undef, undef, undef, undef, undef, undef, undef, undef, undef, undef, undef, undef, undef, undef, undef, undef, undef, undef, undef, undef] Try.func71 rfl rfl rfl ?_
  intro w Q hQr hQn hQp
  replace H := topE H
  unfold laws_sameEdits.f at H
  refine HT_seq_k ?_
  intro K1 hK1
  refine HT_region ?_
  refine HL_cons rfl ?_
  refine o_assign ?_
  try dsimp only [putL, setL, evL, getL]
  refine HL_nil ?_
  refine hK1 _ _ ?_
  refine HT_seq_k ?_
  intro K2 hK2
  refine HT_seq_k ?_
  intro K3 hK3
  refine HT_region ?_
  refine HL_cons rfl ?_
  refine o_move ?_
  try dsimp only [putL, setL, evL, getL]
  refine HL_cons rfl ?_
  refine o_len rfl Try.underlying85 ?_
  try dsimp only [putL, setL, evL, getL]
  refine HL_cons rfl ?_
  refine o_move ?_
  try dsimp only [putL, setL, evL, getL]
  refine HL_cons rfl ?_
  refine o_len rfl Try.underlying85 ?_
  try dsimp only [putL, setL, evL, getL]
  refine HL_cons rfl ?_
  refine o_bin rfl rfl rfl ?_
  try dsimp only [putL, setL, evL, getL]
  refine HL_nil ?_
  refine hK3 _ _ ?_
  rcases Bool.eq_false_or_eq_true ((p0.length : Int) != (p1.length : Int)) with hb4 | hb4
  · replace H := iteT hb4 H
    refine HT_true (congrArg Value.bool hb4) ?_
    refine HT_seq_k ?_
    intro K5 hK5
    refine HT_region ?_
    refine HL_cons rfl ?_
    refine o_assign ?_
    try dsimp only [putL, setL, evL, getL]
    refine HL_nil ?_
    refine hK5 _ _ ?_
    refine HT_ret ?_
    exact hQr _ _ [.bool false] ⟨rfl, trivial⟩ (retH (fun r => laws_sameEdits.post sb s F0 r _ _) (show some _ = some r from H) ⟨rfl, hH⟩)
  · replace H := iteF hb4 H
    refine HT_false (congrArg Value.bool hb4) ?_
    refine HT_skip ?_
    refine hK2 _ _ ?_
    refine HT_seq_k ?_
    intro K6 hK6
    refine HT_seq_k ?_
    intro K7 hK7
    refine HT_region ?_
    refine HL_cons rfl ?_
    refine o_move ?_
    try dsimp only [putL, setL, evL, getL]
    refine HL_cons rfl ?_
    refine o_len rfl Try.underlying85 ?_
    try dsimp only [putL, setL, evL, getL]
    refine HL_cons rfl ?_
    refine o_move ?_
    try dsimp only [putL, setL, evL, getL]
    refine HL_nil ?_
    refine hK7 _ _ ?_
    refine joinH H fun G8 hG8 H => ?_
    refine HT_toK (fun l' s' => G8 (.go ()) = some r ∧ l' = [.slice A0p p0.length c0p, .slice A1p p1.length c1p, undef, undef, getL l' 4, getL l' 5, .slice A0p p0.length c0p, .int .i64 (p0.length : Int), .slice A1p p1.length c1p, .int .i64 (p1.length : Int), .bool ((p0.length : Int) != (p1.length : Int)), .slice A0p p0.length c0p, .int .i64 (p0.length : Int), getL l' 13, getL l' 14, getL l' 15, getL l' 16, getL l' 17, getL l' 18, getL l' 19, getL l' 20, getL l' 21, getL l' 22, getL l' 23, getL l' 24, getL l' 25, getL l' 26, getL l' 27, getL l' 28, getL l' 29, getL l' 30, getL l' 31, getL l' 32, getL l' 33, getL l' 34, getL l' 35, getL l' 36, getL l' 37, getL l' 38, getL l' 39, getL l' 40, getL l' 41] ∧ Hp sb s F0 s' []) ?_ ?_
    · intro K8 hK8
      refine HT_block ?_
      refine HT_loopK (fun kf l' s' => ∃ (x240 : Int), (laws_sameEdits.l1 p0 p1 kf x240).bind G8 = some r ∧ l' = [.slice A0p p0.length c0p, .slice A1p p1.length c1p, undef, undef, getL l' 4, getL l' 5, .slice A0p p0.length c0p, .int .i64 (p0.length : Int), .slice A1p p1.length c1p, .int .i64 (p1.length : Int), .bool ((p0.length : Int) != (p1.length : Int)), .slice A0p p0.length c0p, .int .i64 (p0.length : Int), .int .i64 x240, getL l' 14, getL l' 15, getL l' 16, getL l' 17, getL l' 18, getL l' 19, getL l' 20, getL l' 21, getL l' 22, getL l' 23, getL l' 24, getL l' 25, getL l' 26, getL l' 27, getL l' 28, getL l' 29, getL l' 30, getL l' 31, getL l' 32, getL l' 33, getL l' 34, getL l' 35, getL l' 36, getL l' 37, getL l' 38, getL l' 39, getL l' 40, getL l' 41] ∧ Hp sb s F0 s' []) ((((p0.length : Int)) - (0)).toNat + 2) ⟨0, H, rfl, hH⟩ ?_
      rintro kf l' s299 ⟨x240, H, hl, hH⟩ K299 hK299
      generalize getL l' 4 = j4, getL l' 5 = j5, getL l' 14 = j14, getL l' 15 = j15, getL l' 16 = j16, getL l' 17 = j17, getL l' 18 = j18, getL l' 19 = j19, getL l' 20 = j20, getL l' 21 = j21, getL l' 22 = j22, getL l' 23 = j23, getL l' 24 = j24, getL l' 25 = j25, getL l' 26 = j26, getL l' 27 = j27, getL l' 28 = j28, getL l' 29 = j29, getL l' 30 = j30, getL l' 31 = j31, getL l' 32 = j32, getL l' 33 = j33, getL l' 34 = j34, getL l' 35 = j35, getL l' 36 = j36, getL l' 37 = j37, getL l' 38 = j38, getL l' 39 = j39, getL l' 40 = j40, getL l' 41 = j41 at hl
      subst hl
      cases kf with
      | zero => simp [laws_sameEdits.l1] at H
      | succ kf =>
        rw [laws_sameEdits.l1] at H
        refine HT_seq_k ?_
        intro K300 hK300
        refine HT_region ?_
        refine HL_cons rfl ?_
        refine o_bin rfl rfl rfl ?_
        try dsimp only [putL, setL, evL, getL]
        refine HL_nil ?_
        refine hK300 _ _ ?_
        refine HT_seq_k ?_
        intro K301 hK301
        rcases Bool.eq_false_or_eq_true (decide (x240 < (p0.length : Int))) with hb302 | hb302
        · replace H := iteT hb302 H
          refine HT_true (congrArg Value.bool hb302) ?_
          refine HT_skip ?_
          refine hK301 _ _ ?_
          refine HT_seq_k ?_
          intro K330 hK330
          refine HT_block ?_
          refine HT_seq_k ?_
          intro K331 hK331
          refine HT_region ?_
          refine HL_cons rfl ?_
          refine o_move ?_
          try dsimp only [putL, setL, evL, getL]
          refine HL_cons rfl ?_
          refine o_assign ?_
          try dsimp only [putL, setL, evL, getL]
          refine HL_nil ?_
          refine hK331 _ _ ?_
          refine joinH H fun G332 hG332 H => ?_
          refine HT_joinK (fun l' s' => ∃ (x343 : Bool), G332 x343 = some r ∧ l' = [.slice A0p p0.length c0p, .slice A1p p1.length c1p, undef, undef, j4, .int .i64 x240, .slice A0p p0.length c0p, .int .i64 (p0.length : Int), .slice A1p p1.length c1p, .int .i64 (p1.length : Int), .bool ((p0.length : Int) != (p1.length : Int)), .slice A0p p0.length c0p, .int .i64 (p0.length : Int), .int .i64 x240, .bool (decide (x240 < (p0.length : Int))), .int .i64 x240, getL l' 16, getL l' 17, getL l' 18, getL l' 19, getL l' 20, getL l' 21, getL l' 22, getL l' 23, getL l' 24, getL l' 25, getL l' 26, getL l' 27, getL l' 28, getL l' 29, getL l' 30, getL l' 31, getL l' 32, getL l' 33, getL l' 34, getL l' 35, getL l' 36, getL l' 37, getL l' 38, getL l' 39, .bool x343, j41] ∧ Hp sb s F0 s' []) ?_ ?_
          · intro K332 hK332
            refine HX_draw hMix ?_
            refine HX_lim (R := fun _ => True) (k := 0) (fun s' => Gro s299 s') 26 ?_
            have hR := Gro.refl s299
            have hH0 := hH
            refine HK_readP 0 (v := .slice A0p p0.length c0p) rfl (by kernel_rfl) (fun c l s h => hQp c l s h) rfl (fun s' K hK => ?_) rfl rfl (fun _ => hR) ?_
            · refine o_move ?_
              exact hK
            try dsimp only [putL, setL, evL, getL]
            refine HK_readP 1 (v := .int .i64 x240) rfl (by kernel_rfl) (fun c l s h => hQp c l s h) rfl (fun s' K hK => ?_) rfl rfl (fun _ => hR) ?_
            · refine o_move ?_
              exact hK
            try dsimp only [putL, setL, evL, getL]
            replace H := headE H
            obtain ⟨u344, hu344, H⟩ := H
            obtain ⟨b344, o344, cs344, hr344, hh344, hel344⟩ := Rd.elb HRp0 hu344
            obtain ⟨_, _, rfl, rfl, ⟨A345, c345, rfl, D345⟩⟩ := hr344
            refine HK_readP 2 (v := .pointer (some ⟨b344, o344, none⟩)) rfl (by kernel_rfl) (fun c l s h => hQp c l s h) rfl (fun s' K hK => ?_) rfl rfl (fun _ => hR) ?_
            · refine hel344 s' rfl rfl Try.underlying85 tI170 ?_
              exact hK
            try dsimp only [putL, setL, evL, getL]
            refine HK_readP 3 (v := .pointer (some ⟨b344, o344 + 0, none⟩)) rfl (by kernel_rfl) (fun c l s h => hQp c l s h) rfl (fun s' K hK => ?_) rfl rfl (fun _ => hR) ?_
            · refine o_faddr' (ft := 3) (off := 0) rfl Try.underlying170 rfl tI3 (by decide) ?_
              exact hK
            try dsimp only [putL, setL, evL, getL]
            refine HK_read 4 (v := .int .i64 u344.1) rfl (by kernel_rfl) (fun c l s h => hQp c l s h) rfl (fun s' hR' K hK => ?_) rfl rfl hR ?_
            · refine o_load' rfl Try.underlying3 rfl ((hh344 (hH0.bs.mono.trans hR'.mono)) 0 _ rfl) ?_
              exact hK
            try dsimp only [putL, setL, evL, getL]
            refine HK_readP 5 (v := .slice A1p p1.length c1p) rfl (by kernel_rfl) (fun c l s h => hQp c l s h) rfl (fun s' K hK => ?_) rfl rfl (fun _ => hR) ?_
            · refine o_move ?_
              exact hK
            try dsimp only [putL, setL, evL, getL]
            refine HK_readP 6 (v := .int .i64 x240) rfl (by kernel_rfl) (fun c l s h => hQp c l s h) rfl (fun s' K hK => ?_) rfl rfl (fun _ => hR) ?_
            · refine o_move ?_
              exact hK
            try dsimp only [putL, setL, evL, getL]
            replace H := headE H
            obtain ⟨u346, hu346, H⟩ := H
            obtain ⟨b346, o346, cs346, hr346, hh346, hel346⟩ := Rd.elb HRp1 hu346
            obtain ⟨_, _, rfl, rfl, ⟨A347, c347, rfl, D347⟩⟩ := hr346
            refine HK_readP 7 (v := .pointer (some ⟨b346, o346, none⟩)) rfl (by kernel_rfl) (fun c l s h => hQp c l s h) rfl (fun s' K hK => ?_) rfl rfl (fun _ => hR) ?_
            · refine hel346 s' rfl rfl Try.underlying85 tI170 ?_
              exact hK
            try dsimp only [putL, setL, evL, getL]
            refine HK_readP 8 (v := .pointer (some ⟨b346, o346 + 0, none⟩)) rfl (by kernel_rfl) (fun c l s h => hQp c l s h) rfl (fun s' K hK => ?_) rfl rfl (fun _ => hR) ?_
            · refine o_faddr' (ft := 3) (off := 0) rfl Try.underlying170 rfl tI3 (by decide) ?_
              exact hK
            try dsimp only [putL, setL, evL, getL]
            refine HK_read 9 (v := .int .i64 u346.1) rfl (by kernel_rfl) (fun c l s h => hQp c l s h) rfl (fun s' hR' K hK => ?_) rfl rfl hR ?_
            · refine o_load' rfl Try.underlying3 rfl ((hh346 (hH0.bs.mono.trans hR'.mono)) 0 _ rfl) ?_
              exact hK
            try dsimp only [putL, setL, evL, getL]
            refine HK_readP 10 (v := .bool (u344.1 != u346.1)) rfl (by kernel_rfl) (fun c l s h => hQp c l s h) rfl (fun s' K hK => ?_) rfl rfl (fun _ => hR) ?_
            · refine o_bin rfl rfl rfl ?_
              exact hK
            try dsimp only [putL, setL, evL, getL]
            refine HK_readP 11 (v := .bool (u344.1 != u346.1)) rfl (by kernel_rfl) (fun c l s h => hQp c l s h) rfl (fun s' K hK => ?_) rfl rfl (fun _ => hR) ?_
            · refine o_move ?_
              exact hK
            try dsimp only [putL, setL, evL, getL]
            rcases Bool.eq_false_or_eq_true (u344.1 != u346.1) with hb348 | hb348
            · replace H := iteT hb348 H
              refine HK_passP 12 rfl (by kernel_rfl) (fun c l s h => hQp c l s h) ?_ (fun _ => hR) ?_
              · exact wantF (j := 11) (b := false) (t := 27) (c := u344.1 != u346.1) rfl rfl rfl rfl hb348
              try dsimp only [putL, setL, evL, getL]
              refine HK_passP 13 rfl (by kernel_rfl) (fun c l s h => hQp c l s h) ?_ (fun _ => hR) ?_
              · exact wantF (j := 11) (b := false) (t := 27) (c := u344.1 != u346.1) rfl rfl rfl rfl hb348
              try dsimp only [putL, setL, evL, getL]
              refine HK_passP 14 rfl (by kernel_rfl) (fun c l s h => hQp c l s h) ?_ (fun _ => hR) ?_
              · exact wantF (j := 11) (b := false) (t := 27) (c := u344.1 != u346.1) rfl rfl rfl rfl hb348
              try dsimp only [putL, setL, evL, getL]
              refine HK_passP 15 rfl (by kernel_rfl) (fun c l s h => hQp c l s h) ?_ (fun _ => hR) ?_
              · exact wantF (j := 11) (b := false) (t := 27) (c := u344.1 != u346.1) rfl rfl rfl rfl hb348
              try dsimp only [putL, setL, evL, getL]
              refine HK_passP 16 rfl (by kernel_rfl) (fun c l s h => hQp c l s h) ?_ (fun _ => hR) ?_
              · exact wantF (j := 11) (b := false) (t := 27) (c := u344.1 != u346.1) rfl rfl rfl rfl hb348
              try dsimp only [putL, setL, evL, getL]
              refine HK_passP 17 rfl (by kernel_rfl) (fun c l s h => hQp c l s h) ?_ (fun _ => hR) ?_
              · exact wantF (j := 11) (b := false) (t := 27) (c := u344.1 != u346.1) rfl rfl rfl rfl hb348
              try dsimp only [putL, setL, evL, getL]
              refine HK_passP 18 rfl (by kernel_rfl) (fun c l s h => hQp c l s h) ?_ (fun _ => hR) ?_
              · exact wantF (j := 11) (b := false) (t := 27) (c := u344.1 != u346.1) rfl rfl rfl rfl hb348
              try dsimp only [putL, setL, evL, getL]
              refine HK_passP 19 rfl (by kernel_rfl) (fun c l s h => hQp c l s h) ?_ (fun _ => hR) ?_
              · exact wantF (j := 11) (b := false) (t := 27) (c := u344.1 != u346.1) rfl rfl rfl rfl hb348
              try dsimp only [putL, setL, evL, getL]
              refine HK_passP 20 rfl (by kernel_rfl) (fun c l s h => hQp c l s h) ?_ (fun _ => hR) ?_
              · exact wantF (j := 11) (b := false) (t := 27) (c := u344.1 != u346.1) rfl rfl rfl rfl hb348
              try dsimp only [putL, setL, evL, getL]
              refine HK_passP 21 rfl (by kernel_rfl) (fun c l s h => hQp c l s h) ?_ (fun _ => hR) ?_
              · exact wantF (j := 11) (b := false) (t := 27) (c := u344.1 != u346.1) rfl rfl rfl rfl hb348
              try dsimp only [putL, setL, evL, getL]
              refine HK_passP 22 rfl (by kernel_rfl) (fun c l s h => hQp c l s h) ?_ (fun _ => hR) ?_
              · exact wantF (j := 11) (b := false) (t := 27) (c := u344.1 != u346.1) rfl rfl rfl rfl hb348
              try dsimp only [putL, setL, evL, getL]
              refine HK_passP 23 rfl (by kernel_rfl) (fun c l s h => hQp c l s h) ?_ (fun _ => hR) ?_
              · exact wantF (j := 11) (b := false) (t := 27) (c := u344.1 != u346.1) rfl rfl rfl rfl hb348
              try dsimp only [putL, setL, evL, getL]
              refine HK_readP 24 (v := .bool true) rfl (by kernel_rfl) (fun c l s h => hQp c l s h) rfl (fun s' K hK => ?_) rfl rfl (fun _ => hR) ?_
              · refine o_pickT rfl hb348 ?_
                exact hK
              try dsimp only [putL, setL, evL, getL]
              refine HK_done (fun _ => hR) (by kernel_rfl) ?_
              exact hK332 _ _ ⟨true, H, rfl, hH⟩
            · replace H := iteF hb348 H
              refine HK_readP 12 (v := .slice A0p p0.length c0p) rfl (by kernel_rfl) (fun c l s h => hQp c l s h) (wantT (j := 11) (b := false) (t := 27) (c := u344.1 != u346.1) rfl rfl rfl rfl hb348) (fun s' K hK => ?_) rfl rfl (fun _ => hR) ?_
              · refine o_move ?_
                exact hK
              try dsimp only [putL, setL, evL, getL]
              refine HK_readP 13 (v := .int .i64 x240) rfl (by kernel_rfl) (fun c l s h => hQp c l s h) (wantT (j := 11) (b := false) (t := 27) (c := u344.1 != u346.1) rfl rfl rfl rfl hb348) (fun s' K hK => ?_) rfl rfl (fun _ => hR) ?_
              · refine o_move ?_
                exact hK
              try dsimp only [putL, setL, evL, getL]
              replace H := headE H
              obtain ⟨u349, hu349, H⟩ := H
              obtain ⟨b349, o349, cs349, hr349, hh349, hel349⟩ := Rd.elb HRp0 hu349
              obtain ⟨_, _, rfl, rfl, ⟨A350, c350, rfl, D350⟩⟩ := hr349
              refine HK_readP 14 (v := .pointer (some ⟨b349, o349, none⟩)) rfl (by kernel_rfl) (fun c l s h => hQp c l s h) (wantT (j := 11) (b := false) (t := 27) (c := u344.1 != u346.1) rfl rfl rfl rfl hb348) (fun s' K hK => ?_) rfl rfl (fun _ => hR) ?_
              · refine hel349 s' rfl rfl Try.underlying85 tI170 ?_
                exact hK
              try dsimp only [putL, setL, evL, getL]
              refine HK_readP 15 (v := .pointer (some ⟨b349, o349 + 1, none⟩)) rfl (by kernel_rfl) (fun c l s h => hQp c l s h) (wantT (j := 11) (b := false) (t := 27) (c := u344.1 != u346.1) rfl rfl rfl rfl hb348) (fun s' K hK => ?_) rfl rfl (fun _ => hR) ?_
              · refine o_faddr' (ft := 24) (off := 1) rfl Try.underlying170 rfl tI24 (by decide) ?_
                exact hK
              try dsimp only [putL, setL, evL, getL]
              refine HK_read 16 (v := .slice A350 u349.2.length c350) rfl (by kernel_rfl) (fun c l s h => hQp c l s h) (wantT (j := 11) (b := false) (t := 27) (c := u344.1 != u346.1) rfl rfl rfl rfl hb348) (fun s' hR' K hK => ?_) rfl rfl hR ?_
              · refine o_load' rfl Try.underlying24 rfl ((hh349 (hH0.bs.mono.trans hR'.mono)) 1 _ rfl) ?_
                exact hK
              try dsimp only [putL, setL, evL, getL]
              refine HK_readP 17 (v := .slice A1p p1.length c1p) rfl (by kernel_rfl) (fun c l s h => hQp c l s h) (wantT (j := 11) (b := false) (t := 27) (c := u344.1 != u346.1) rfl rfl rfl rfl hb348) (fun s' K hK => ?_) rfl rfl (fun _ => hR) ?_
              · refine o_move ?_
                exact hK
              try dsimp only [putL, setL, evL, getL]
              refine HK_readP 18 (v := .int .i64 x240) rfl (by kernel_rfl) (fun c l s h => hQp c l s h) (wantT (j := 11) (b := false) (t := 27) (c := u344.1 != u346.1) rfl rfl rfl rfl hb348) (fun s' K hK => ?_) rfl rfl (fun _ => hR) ?_
              · refine o_move ?_
                exact hK
              try dsimp only [putL, setL, evL, getL]
              replace H := headE H
              obtain ⟨u351, hu351, H⟩ := H
              obtain ⟨b351, o351, cs351, hr351, hh351, hel351⟩ := Rd.elb HRp1 hu351
              obtain ⟨_, _, rfl, rfl, ⟨A352, c352, rfl, D352⟩⟩ := hr351
              refine HK_readP 19 (v := .pointer (some ⟨b351, o351, none⟩)) rfl (by kernel_rfl) (fun c l s h => hQp c l s h) (wantT (j := 11) (b := false) (t := 27) (c := u344.1 != u346.1) rfl rfl rfl rfl hb348) (fun s' K hK => ?_) rfl rfl (fun _ => hR) ?_
              · refine hel351 s' rfl rfl Try.underlying85 tI170 ?_
                exact hK
              try dsimp only [putL, setL, evL, getL]
              refine HK_readP 20 (v := .pointer (some ⟨b351, o351 + 1, none⟩)) rfl (by kernel_rfl) (fun c l s h => hQp c l s h) (wantT (j := 11) (b := false) (t := 27) (c := u344.1 != u346.1) rfl rfl rfl rfl hb348) (fun s' K hK => ?_) rfl rfl (fun _ => hR) ?_
              · refine o_faddr' (ft := 24) (off := 1) rfl Try.underlying170 rfl tI24 (by decide) ?_
                exact hK
              try dsimp only [putL, setL, evL, getL]
              refine HK_read 21 (v := .slice A352 u351.2.length c352) rfl (by kernel_rfl) (fun c l s h => hQp c l s h) (wantT (j := 11) (b := false) (t := 27) (c := u344.1 != u346.1) rfl rfl rfl rfl hb348) (fun s' hR' K hK => ?_) rfl rfl hR ?_
              · refine o_load' rfl Try.underlying24 rfl ((hh351 (hH0.bs.mono.trans hR'.mono)) 1 _ rfl) ?_
                exact hK
              try dsimp only [putL, setL, evL, getL]
              refine HK_more [22] (by kernel_rfl) rfl (fun _ => hR) ⟨⟨_, rfl, Or.inl ⟨(wantT (j := 11) (b := false) (t := 27) (c := u344.1 != u346.1) rfl rfl rfl rfl hb348), ?_⟩⟩, trivial⟩
              replace H := headE H
              obtain ⟨u353, hu353, H⟩ := H
              skip
              refine o_call (args := #[.slice A350 u349.2.length c350, .slice A352 u351.2.length c352]) Try.func18 rfl rfl rfl (laws_sameInts.ok sb s299 no A350 c350 u349.2 A352 c352 u351.2 D350 D352 (Hp.own hH.bs) _ hu353) ?_
              rintro _ s353 ⟨rfl, hD⟩
              replace hR := hR.trans hD.gro
              replace hH := hH.back0 hD (Up.refl _ _ _)
              clear hD
              dsimp only [addC, setC, rmC, selC, getC] at hH
              try dsimp only [putL, setL, evL, getL]
              refine HK_readP 23 (v := .bool (!u353)) rfl (by kernel_rfl) (fun c l s h => hQp c l s h) (wantT (j := 11) (b := false) (t := 27) (c := u344.1 != u346.1) rfl rfl rfl rfl hb348) (fun s' K hK => ?_) rfl rfl (fun _ => hR) ?_
              · refine o_not rfl ?_
                exact hK
              try dsimp only [putL, setL, evL, getL]
              refine HK_readP 24 (v := .bool (!u353)) rfl (by kernel_rfl) (fun c l s h => hQp c l s h) rfl (fun s' K hK => ?_) rfl rfl (fun _ => hR) ?_
              · refine o_pickF rfl hb348 ?_
                exact hK
              try dsimp only [putL, setL, evL, getL]
              refine HK_done (fun _ => hR) (by kernel_rfl) ?_
              exact hK332 _ _ ⟨!u353, H, rfl, hH⟩
          · rintro l' s354 ⟨x343, H, hl, hH⟩
            generalize getL l' 16 = j16, getL l' 17 = j17, getL l' 18 = j18, getL l' 19 = j19, getL l' 20 = j20, getL l' 21 = j21, getL l' 22 = j22, getL l' 23 = j23, getL l' 24 = j24, getL l' 25 = j25, getL l' 26 = j26, getL l' 27 = j27, getL l' 28 = j28, getL l' 29 = j29, getL l' 30 = j30, getL l' 31 = j31, getL l' 32 = j32, getL l' 33 = j33, getL l' 34 = j34, getL l' 35 = j35, getL l' 36 = j36, getL l' 37 = j37, getL l' 38 = j38, getL l' 39 = j39 at hl
            subst hl
            replace H := hG332 _ H
            try dsimp only at H
            rcases Bool.eq_false_or_eq_true x343 with hb355 | hb355
            · replace H := iteT hb355 H
              refine HT_true (congrArg Value.bool hb355) ?_
              refine HT_seq_k ?_
              intro K356 hK356
              refine HT_region ?_
              refine HL_cons rfl ?_
              refine o_assign ?_
              try dsimp only [putL, setL, evL, getL]
              refine HL_nil ?_
              refine hK356 _ _ ?_
              refine HT_ret ?_
              replace H := escH (fun z hz => hG8 _ hz) H
              exact hQr _ _ [.bool false] ⟨rfl, trivial⟩ (retH (fun r => laws_sameEdits.post sb s F0 r _ _) (show some _ = some r from H) ⟨rfl, hH⟩)
            · replace H := iteF hb355 H
              refine HT_false (congrArg Value.bool hb355) ?_
              refine HT_skip ?_
              refine hK330 _ _ ?_
              refine HT_region ?_
              refine HL_cons rfl ?_
              refine o_bin rfl rfl rfl ?_
              try dsimp only [putL, setL, evL, getL]
              refine HL_cons rfl ?_
              refine o_move ?_
              try dsimp only [putL, setL, evL, getL]
              refine HL_nil ?_
              exact hK299 _ _ ⟨kf, Nat.lt_succ_self kf, IntKind.i64.wrap (x240 + 1), H, rfl, hH⟩
        · replace H := iteF hb302 H
          refine HT_false (congrArg Value.bool hb302) ?_
          refine HT_exit ?_
          exact hK8 _ _ ⟨H, rfl, hH⟩
    · rintro l' s357 ⟨H, hl, hH⟩
      generalize getL l' 4 = j4, getL l' 5 = j5, getL l' 13 = j13, getL l' 14 = j14, getL l' 15 = j15, getL l' 16 = j16, getL l' 17 = j17, getL l' 18 = j18, getL l' 19 = j19, getL l' 20 = j20, getL l' 21 = j21, getL l' 22 = j22, getL l' 23 = j23, getL l' 24 = j24, getL l' 25 = j25, getL l' 26 = j26, getL l' 27 = j27, getL l' 28 = j28, getL l' 29 = j29, getL l' 30 = j30, getL l' 31 = j31, getL l' 32 = j32, getL l' 33 = j33, getL l' 34 = j34, getL l' 35 = j35, getL l' 36 = j36, getL l' 37 = j37, getL l' 38 = j38, getL l' 39 = j39, getL l' 40 = j40, getL l' 41 = j41 at hl
      subst hl
      replace H := hG8 _ H
      try dsimp only at H
      refine hK6 _ _ ?_
      refine HT_seq_k ?_
      intro K358 hK358
      refine HT_region ?_
      refine HL_cons rfl ?_
      refine o_assign ?_
      try dsimp only [putL, setL, evL, getL]
      refine HL_nil ?_
      refine hK358 _ _ ?_
      refine HT_ret ?_
      exact hQr _ _ [.bool true] ⟨rfl, trivial⟩ (retH (fun r => laws_sameEdits.post sb s F0 r _ _) (show some _ = some r from H) ⟨rfl, hH⟩)
def impl_areEdits_1.f (p0_0 : Int) (p0_1 : List (Int)) : Option Bool := (impl_inRange.f p0_0 1 3).bind fun u4 => if (!u4) = true then (some true) else (if ((p0_1.length : Int) == 0) = true then (some true) else ((impl_areShort.f [p0_1]).bind fun u8 => some (!u8)))
def impl_areEdits_1.post (sb s : St) (F0 : Fp) (r : Bool) : Value → St → Prop := fun v s' => v = .bool r ∧ Hp sb s F0 s' []
set_option maxRecDepth 100000 in
set_option maxHeartbeats 4000000 in
theorem impl_areEdits_1.ok (sb s : St) (F0 : Fp) (p0_0 : Int) (A0_1p : Option Addr) (c0_1p : Nat) (p0_1 : List (Int)) (HRp0_1 : Rd KI sb A0_1p c0_1p p0_1) (hH : Hp sb s F0 s []) (r : Bool) (H : impl_areEdits_1.f p0_0 p0_1 = some r) : GCall Try.prog 211 #[.agg #[.int .i64 p0_0, .slice A0_1p p0_1.length c0_1p]] s (impl_areEdits_1.post sb s F0 r) := by
  refine GCall_ofk [.tmp 2] [.agg #[.int .i64 p0_0, .slice A0_1p p0_1.length c0_1p], undef, undef, undef, undef, undef, undef, undef, undef, undef, undef, undef, undef, undef, undef, undef, undef, undef, undef, undef] Try.func211 rfl rfl rfl ?_
  intro w Q hQr hQn hQp
  replace H := topE H
  unfold impl_areEdits_1.f at H
  refine HT_seq_k ?_
  intro K1 hK1
  refine HT_region ?_
  refine HL_cons rfl ?_
  refine o_boxH hH rfl ?_
  intro b2 s2 hH' hG
  replace hH : Hp sb s F0 s2 [Ck.ov b2 [.int .i64 p0_0, .slice A0_1p p0_1.length c0_1p] 170] := hH'
  clear hH' hG
  try dsimp only [putL, setL, evL, getL]
  refine HL_cons rfl ?_
  refine o_assign ?_
  try dsimp only [putL, setL, evL, getL]
  refine HL_nil ?_
  refine hK1 _ _ ?_
  refine HT_seq_k ?_
  intro K3 hK3
  refine HT_region ?_
  refine HL_cons rfl ?_
  refine o_faddr' (ft := 3) (off := 0) rfl Try.underlying170 rfl tI3 (by decide) ?_
  try dsimp only [putL, setL, evL, getL]
  refine HL_cons rfl ?_
  refine o_load' rfl Try.underlying3 rfl (hH.hasv 0 rfl rfl) ?_
  try dsimp only [putL, setL, evL, getL]
  replace H := headE H
  obtain ⟨u4, hu4, H⟩ := H
  refine HL_cons rfl ?_
  refine o_call (args := #[.int .i64 p0_0, .int .i64 1, .int .i64 3]) Try.func105 rfl rfl rfl (impl_inRange.ok sb s2 no p0_0 1 3 (Hp.own hH.bs) _ hu4) ?_
  rintro _ s4 ⟨rfl, hD⟩
  replace hH := hH.back0 hD (Up.refl _ _ _)
  clear hD
  dsimp only [addC, setC, rmC, selC, getC] at hH
  try dsimp only [putL, setL, evL, getL]
  refine HL_cons rfl ?_
  refine o_not rfl ?_
  try dsimp only [putL, setL, evL, getL]
  refine HL_cons rfl ?_
  refine o_move ?_
  try dsimp only [putL, setL, evL, getL]
  rcases Bool.eq_false_or_eq_true (!u4) with hb5 | hb5
  · replace H := iteT hb5 H
    refine HL_skip ?_ ?_
    · exact wantF (j := 4) (b := false) (t := 7) (c := !u4) rfl rfl rfl rfl hb5
    try dsimp only [putL, setL, evL, getL]
    refine HL_skip ?_ ?_
    · exact wantF (j := 4) (b := false) (t := 7) (c := !u4) rfl rfl rfl rfl hb5
    try dsimp only [putL, setL, evL, getL]
    refine HL_skip ?_ ?_
    · exact wantF (j := 4) (b := false) (t := 7) (c := !u4) rfl rfl rfl rfl hb5
    try dsimp only [putL, setL, evL, getL]
    refine HL_skip ?_ ?_
    · exact wantF (j := 4) (b := false) (t := 7) (c := !u4) rfl rfl rfl rfl hb5
    try dsimp only [putL, setL, evL, getL]
    refine HL_cons rfl ?_
    refine o_pickT rfl hb5 ?_
    try dsimp only [putL, setL, evL, getL]
    refine HL_cons rfl ?_
    refine o_move ?_
    try dsimp only [putL, setL, evL, getL]
    refine HL_skip ?_ ?_
    · exact wantF (j := 10) (b := false) (t := 13) (c := true) rfl rfl rfl rfl rfl
    try dsimp only [putL, setL, evL, getL]
    refine HL_skip ?_ ?_
    · exact wantF (j := 10) (b := false) (t := 13) (c := true) rfl rfl rfl rfl rfl
    try dsimp only [putL, setL, evL, getL]
    refine HL_skip ?_ ?_
    · exact wantF (j := 10) (b := false) (t := 13) (c := true) rfl rfl rfl rfl rfl
    try dsimp only [putL, setL, evL, getL]
    refine HL_skip ?_ ?_
    · exact wantF (j := 10) (b := false) (t := 13) (c := true) rfl rfl rfl rfl rfl
    try dsimp only [putL, setL, evL, getL]
    refine HL_skip ?_ ?_
    · exact wantF (j := 10) (b := false) (t := 13) (c := true) rfl rfl rfl rfl rfl
    try dsimp only [putL, setL, evL, getL]
    refine HL_cons rfl ?_
    refine o_pickT rfl rfl ?_
    try dsimp only [putL, setL, evL, getL]
    refine HL_cons rfl ?_
    refine o_assign ?_
    try dsimp only [putL, setL, evL, getL]
    refine HL_nil ?_
    refine hK3 _ _ ?_
    refine HT_ret ?_
    exact hQr _ _ [.bool true] ⟨rfl, trivial⟩ (retH (fun r => impl_areEdits_1.post sb s F0 r _ _) (show some _ = some r from H) ⟨rfl, hH.sel [] (by decide)⟩)
  · replace H := iteF hb5 H
    refine HL_want ?_ ?_
    · exact wantT (j := 4) (b := false) (t := 7) (c := !u4) rfl rfl rfl rfl hb5
    refine o_faddr' (ft := 24) (off := 1) rfl Try.underlying170 rfl tI24 (by decide) ?_
    try dsimp only [putL, setL, evL, getL]
    refine HL_want ?_ ?_
    · exact wantT (j := 4) (b := false) (t := 7) (c := !u4) rfl rfl rfl rfl hb5
    refine o_load' rfl Try.underlying24 rfl (hH.hasv 0 rfl rfl) ?_
    try dsimp only [putL, setL, evL, getL]
    refine HL_want ?_ ?_
    · exact wantT (j := 4) (b := false) (t := 7) (c := !u4) rfl rfl rfl rfl hb5
    refine o_len rfl Try.underlying24 ?_
    try dsimp only [putL, setL, evL, getL]
    refine HL_want ?_ ?_
    · exact wantT (j := 4) (b := false) (t := 7) (c := !u4) rfl rfl rfl rfl hb5
    refine o_bin rfl rfl rfl ?_
    try dsimp only [putL, setL, evL, getL]
    refine HL_cons rfl ?_
    refine o_pickF rfl hb5 ?_
    try dsimp only [putL, setL, evL, getL]
    refine HL_cons rfl ?_
    refine o_move ?_
    try dsimp only [putL, setL, evL, getL]
    rcases Bool.eq_false_or_eq_true ((p0_1.length : Int) == 0) with hb6 | hb6
    · replace H := iteT hb6 H
      refine HL_skip ?_ ?_
      · exact wantF (j := 10) (b := false) (t := 13) (c := (p0_1.length : Int) == 0) rfl rfl rfl rfl hb6
      try dsimp only [putL, setL, evL, getL]
      refine HL_skip ?_ ?_
      · exact wantF (j := 10) (b := false) (t := 13) (c := (p0_1.length : Int) == 0) rfl rfl rfl rfl hb6
      try dsimp only [putL, setL, evL, getL]
      refine HL_skip ?_ ?_
      · exact wantF (j := 10) (b := false) (t := 13) (c := (p0_1.length : Int) == 0) rfl rfl rfl rfl hb6
      try dsimp only [putL, setL, evL, getL]
      refine HL_skip ?_ ?_
      · exact wantF (j := 10) (b := false) (t := 13) (c := (p0_1.length : Int) == 0) rfl rfl rfl rfl hb6
      try dsimp only [putL, setL, evL, getL]
      refine HL_skip ?_ ?_
      · exact wantF (j := 10) (b := false) (t := 13) (c := (p0_1.length : Int) == 0) rfl rfl rfl rfl hb6
      try dsimp only [putL, setL, evL, getL]
      refine HL_cons rfl ?_
      refine o_pickT rfl hb6 ?_
      try dsimp only [putL, setL, evL, getL]
      refine HL_cons rfl ?_
      refine o_assign ?_
      try dsimp only [putL, setL, evL, getL]
      refine HL_nil ?_
      refine hK3 _ _ ?_
      refine HT_ret ?_
      exact hQr _ _ [.bool true] ⟨rfl, trivial⟩ (retH (fun r => impl_areEdits_1.post sb s F0 r _ _) (show some _ = some r from H) ⟨rfl, hH.sel [] (by decide)⟩)
    · replace H := iteF hb6 H
      refine HL_want ?_ ?_
      · exact wantT (j := 10) (b := false) (t := 13) (c := (p0_1.length : Int) == 0) rfl rfl rfl rfl hb6
      refine o_faddr' (ft := 24) (off := 1) rfl Try.underlying170 rfl tI24 (by decide) ?_
      try dsimp only [putL, setL, evL, getL]
      refine HL_want ?_ ?_
      · exact wantT (j := 10) (b := false) (t := 13) (c := (p0_1.length : Int) == 0) rfl rfl rfl rfl hb6
      refine o_load' rfl Try.underlying24 rfl (hH.hasv 0 rfl rfl) ?_
      try dsimp only [putL, setL, evL, getL]
      refine HL_want ?_ ?_
      · exact wantT (j := 10) (b := false) (t := 13) (c := (p0_1.length : Int) == 0) rfl rfl rfl rfl hb6
      refine o_litF (K := (Kd.sl KI)) (O := (Ow.lent (Kd.sl KI))) (ca := #[.slice A0_1p p0_1.length c0_1p]) [[.slice A0_1p p0_1.length c0_1p]] [p0_1] hH Try.underlying105 tI24 rfl (by decide) rfl rfl (by kernel_rfl) rfl ⟨rfl, Ent.own (Ent.lent ⟨_, _, rfl, HRp0_1⟩), trivial⟩ ?_
      intro A7 s7 hH' hG
      replace hH : Hp sb s F0 s7 [Ck.ov b2 [.int .i64 p0_0, .slice A0_1p p0_1.length c0_1p] 170, Ck.ol (Ow.lent (Kd.sl KI)) 24 A7 1 [p0_1]] := hH'
      clear hH' hG
      try dsimp only [putL, setL, evL, getL]
      replace H := headE H
      obtain ⟨u8, hu8, H⟩ := H
      refine HL_want ?_ ?_
      · exact wantT (j := 10) (b := false) (t := 13) (c := (p0_1.length : Int) == 0) rfl rfl rfl rfl hb6
      refine o_call (args := #[.slice A7 [p0_1].length 1]) Try.func99 rfl rfl rfl (impl_areShort.ok s7 s7 no A7 1 [p0_1] (hH.rd 1 rfl) (Hp.own (Bs.refl s7)) _ hu8) ?_
      rintro _ s8 ⟨rfl, hD⟩
      replace hH := hH.back0T hD
      clear hD
      dsimp only [addC, setC, rmC, selC, getC] at hH
      try dsimp only [putL, setL, evL, getL]
      refine HL_want ?_ ?_
      · exact wantT (j := 10) (b := false) (t := 13) (c := (p0_1.length : Int) == 0) rfl rfl rfl rfl hb6
      refine o_not rfl ?_
      try dsimp only [putL, setL, evL, getL]
      refine HL_cons rfl ?_
      refine o_pickF rfl hb6 ?_
      try dsimp only [putL, setL, evL, getL]
      refine HL_cons rfl ?_
      refine o_assign ?_
      try dsimp only [putL, setL, evL, getL]
      refine HL_nil ?_
      refine hK3 _ _ ?_
      refine HT_ret ?_
      exact hQr _ _ [.bool (!u8)] ⟨rfl, trivial⟩ (retH (fun r => impl_areEdits_1.post sb s F0 r _ _) (show some _ = some r from H) ⟨rfl, hH.sel [] (by decide)⟩)
end Go.Proofs.Ytkieinlcpkpcjaa
