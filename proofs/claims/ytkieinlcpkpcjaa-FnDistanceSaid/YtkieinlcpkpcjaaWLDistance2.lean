/- The functions that the law reaches, as plain functions, each with its contract: printed by a program of the prover's. No conditions: lemmas. -/
import Derived.Test.YtkieinlcpkpcjaaWLDistance1
set_option linter.unusedVariables false
set_option linter.unusedSimpArgs false
namespace Go.Proofs.Ytkieinlcpkpcjaa
open Go Go.Proofs.GL
def laws_FnDistance.l2 (u85 : (List (Int)) × (List (Int)) × Int) (x1040 : Int) : Nat → Bool → Int → Option Bool
  | 0, _, _ => none
  | kf + 1, x1458, x1459 => if (decide (x1459 ≤ x1040)) = true then (((cut? u85.2.1 x1459 x1040).bind fun x1490 => (impl_DistanceOf.f u85.1 x1490).bind fun u1491 => if x1458 = true then (some true) else (if u1491.2 = true then (some (decide (u1491.1 ≤ u85.2.2))) else (some false))).bind fun (o : Bool) => match o with | x1488 => (laws_FnDistance.l2 u85 x1040 kf x1488 (IntKind.i64.wrap (x1459 + 1)))) else (some x1458)
def laws_FnDistance.l1 (u85 : (List (Int)) × (List (Int)) × Int) (u89 : (List (Int)) × Bool) : Nat → Int → Option (Lo Unit Bool)
  | 0, _ => none
  | kf + 1, x1040 => if (decide (x1040 ≤ (u85.2.1.length : Int))) = true then (((laws_FnDistance.l2 u85 x1040 (((x1040) - (0)).toNat + 2) false 0).bind fun (o : Bool) => match o with | x1443 => ((laws_has.f u89.1 x1040).bind fun u1497 => if (x1443 != u1497) = true then (((some false).bind fun z => some (Lo.ret z)).bind fun z => some (Lo.ret z)) else (some (Lo.go ())))).bind fun (o : Lo Unit (Lo Unit Bool)) => match o with | .go () => (laws_FnDistance.l1 u85 u89 kf (IntKind.i64.wrap (x1040 + 1))) | .ret z => some z) else (some (Lo.go ()))
def laws_FnDistance.f (p0 : List (Int)) (p1 : List (Int)) : Option Bool := (laws_big.f p0 p1).bind fun u4 => if u4 = true then (some true) else ((spec_DrawDistanceOf.f p0).bind fun u8 => (impl_DistanceOf.f u8.1 u8.2).bind fun u12 => (spec_DistanceOf.f u8.1 u8.2).bind fun u14 => (impl_DistanceOf.f u8.2 u8.1).bind fun u16 => (if (u12.2 != u14.2) = true then (some true) else (if (u12.1 != u14.1) = true then (some true) else (if (u12.2 != u16.2) = true then (some true) else (if (u12.1 != u16.1) = true then (some true) else (if u12.2 = true then ((laws_sameInts.f u8.1 u8.2).bind fun u49 => some ((u12.1 == 0) != u49)) else (some false)))))).bind fun (o : Bool) => match o with | x43 => (if x43 = true then (some false) else ((laws_wordOf.f p1).bind fun u54 => (impl_DistanceOf.f u8.1 u54).bind fun u57 => (impl_DistanceOf.f u54 u8.2).bind fun u59 => (if u12.2 = true then (if (!u57.2) = true then (some true) else (if (!u59.2) = true then (some true) else (some (decide (u12.1 > (IntKind.i64.wrap (u57.1 + u59.1))))))) else (some false)).bind fun (o : Bool) => match o with | x77 => (if x77 = true then (some false) else ((spec_DrawNearEnds.f p1).bind fun u85 => (impl_NearEnds.f u85.1 u85.2.1 u85.2.2).bind fun u89 => (spec_NearEnds.f u85.1 u85.2.1 u85.2.2).bind fun u92 => (if (u89.2 != u92.2) = true then (some true) else ((laws_sameInts.f u89.1 u92.1).bind fun u110 => some (!u110))).bind fun (o : Bool) => match o with | x108 => (if x108 = true then (some false) else ((if u89.2 = true then (laws_FnDistance.l1 u85 u89 ((((u85.2.1.length : Int)) - (0)).toNat + 2) 0) else (some (Lo.go ()))).bind fun (o : Lo Unit Bool) => match o with | .go () => (some true) | .ret z => some z)))))))
def laws_FnDistance.post (sb s : St) (F0 : Fp) (r : Bool) : Value → St → Prop := fun v s' => v = .bool r ∧ Hp sb s F0 s' []
set_option maxRecDepth 100000 in
set_option maxHeartbeats 4000000 in
theorem laws_FnDistance.ok (sb s : St) (F0 : Fp) (A0p : Option Addr) (c0p : Nat) (p0 : List (Int)) (A1p : Option Addr) (c1p : Nat) (p1 : List (Int)) (HRp0 : Rd (Kd.int .u8) sb A0p c0p p0) (HRp1 : Rd (Kd.int .u8) sb A1p c1p p1) (hH : Hp sb s F0 s []) (r : Bool) (H : laws_FnDistance.f p0 p1 = some r) : GCall Try.prog 3 #[.slice A0p p0.length c0p, .slice A1p p1.length c1p] s (laws_FnDistance.post sb s F0 r) := by
  refine GCall_ofk [.tmp 4] [.slice A0p p0.length c0p, .slice A1p p1.length c1p, undef, undef, undef, undef, undef, undef, undef, undef, undef, undef, undef, undef, undef, undef, undef, undef, undef, undef, undef, undef, undef, undef, undef, undef, undef, undef, undef, undef, undef, undef, undef, undef, undef, undef, undef, undef, undef, undef, undef, undef, undef, undef, undef, undef, undef, undef, undef, undef, undef, undef, undef, undef, undef, undef, undef, undef, undef, undef, undef, undef, undef, undef, undef, undef, undef, undef, undef, undef, undef, undef, undef, undef, undef, undef, undef, undef, undef, undef, undef, undef, undef, undef, undef, undef, undef, undef, undef, undef, undef, undef, undef, undef, undef, undef, undef, undef, undef, undef, undef, undef, undef, undef, undef, undef, undef, undef, undef, undef, undef, undef, undef, undef, undef, undef, undef, undef, undef, undef, undef, undef, undef, undef, undef, undef, undef, undef, undef, undef, undef, undef, undef, undef, undef, undef, undef, undef, undef, undef, undef, undef, undef, undef, undef, undef, undef, undef, undef, undef, undef, undef, undef, undef, undef, undef, undef, undef, undef, undef, undef, undef, undef, undef, undef, undef, undef, undef, undef, undef, undef, undef, undef, undef, undef, undef, undef, undef, undef] Try.func3 rfl rfl rfl ?_
  intro w Q hQr hQn hQp
  replace H := topE H
  unfold laws_FnDistance.f at H
  refine HT_seq_k ?_
  intro K1 hK1
  refine HT_region ?_
  refine HL_cons rfl ?_
  refine o_assign ?_
  try dsimp only [putL, setL, evL, getL]
  refine HL_nil ?_
  refine hK1 _ _ ?_
  refine HT_seq_k ?_
  intro K2 hK2
  refine HT_seq_k ?_
  intro K3 hK3
  refine HT_region ?_
  refine HL_cons rfl ?_
  refine o_move ?_
  try dsimp only [putL, setL, evL, getL]
  refine HL_cons rfl ?_
  refine o_move ?_
  try dsimp only [putL, setL, evL, getL]
  replace H := headE H
  obtain ⟨u4, hu4, H⟩ := H
  refine HL_cons rfl ?_
  refine o_call (args := #[.slice A0p p0.length c0p, .slice A1p p1.length c1p]) Try.func14 rfl rfl rfl (laws_big.ok sb s no A0p c0p p0 A1p c1p p1 HRp0 HRp1 (Hp.own hH.bs) _ hu4) ?_
  rintro _ s4 ⟨rfl, hD⟩
  replace hH := hH.back0 hD (Up.refl _ _ _)
  clear hD
  dsimp only [addC, setC, rmC, selC, getC] at hH
  try dsimp only [putL, setL, evL, getL]
  refine HL_nil ?_
  refine hK3 _ _ ?_
  rcases Bool.eq_false_or_eq_true u4 with hb5 | hb5
  · replace H := iteT hb5 H
    refine HT_true (congrArg Value.bool hb5) ?_
    refine HT_seq_k ?_
    intro K6 hK6
    refine HT_region ?_
    refine HL_cons rfl ?_
    refine o_assign ?_
    try dsimp only [putL, setL, evL, getL]
    refine HL_nil ?_
    refine hK6 _ _ ?_
    refine HT_ret ?_
    exact hQr _ _ [.bool true] ⟨rfl, trivial⟩ (retH (fun r => laws_FnDistance.post sb s F0 r _ _) (show some _ = some r from H) ⟨rfl, hH⟩)
  · replace H := iteF hb5 H
    refine HT_false (congrArg Value.bool hb5) ?_
    refine HT_skip ?_
    refine hK2 _ _ ?_
    refine HT_seq_k ?_
    intro K7 hK7
    refine HT_region ?_
    refine HL_cons rfl ?_
    refine o_move ?_
    try dsimp only [putL, setL, evL, getL]
    replace H := headE H
    obtain ⟨u8, hu8, H⟩ := H
    refine HL_cons rfl ?_
    refine o_call (args := #[.slice A0p p0.length c0p]) Try.func15 rfl rfl rfl (spec_DrawDistanceOf.ok sb s4 no A0p c0p p0 HRp0 (Hp.own hH.bs) _ hu8) ?_
    rintro _ s8 ⟨A9, c9, A10, c10, rfl, hD⟩
    replace hH := hH.back0 hD (Up.refl _ _ _)
    clear hD
    dsimp only [addC, setC, rmC, selC, getC] at hH
    try dsimp only [putL, setL, evL, getL]
    refine HL_cons rfl ?_
    refine o_move ?_
    try dsimp only [putL, setL, evL, getL]
    refine HL_cons rfl ?_
    refine o_extract rfl rfl ?_
    try dsimp only [putL, setL, evL, getL]
    refine HL_cons rfl ?_
    refine o_extract rfl rfl ?_
    try dsimp only [putL, setL, evL, getL]
    refine HL_cons rfl ?_
    refine o_assign ?_
    try dsimp only [putL, setL, evL, getL]
    refine HL_cons rfl ?_
    refine o_assign ?_
    try dsimp only [putL, setL, evL, getL]
    refine HL_nil ?_
    refine hK7 _ _ ?_
    refine HT_seq_k ?_
    intro K11 hK11
    refine HT_region ?_
    refine HL_cons rfl ?_
    refine o_move ?_
    try dsimp only [putL, setL, evL, getL]
    refine HL_cons rfl ?_
    refine o_move ?_
    try dsimp only [putL, setL, evL, getL]
    replace H := headE H
    obtain ⟨u12, hu12, H⟩ := H
    refine HL_cons rfl ?_
    refine o_call (args := #[.slice A9 u8.1.length c9, .slice A10 u8.2.length c10]) Try.func16 rfl rfl rfl (impl_DistanceOf.ok s8 s8 no A9 c9 u8.1 A10 c10 u8.2 (hH.rd 0 rfl) (hH.rd 1 rfl) (Hp.own (Bs.refl s8)) _ hu12) ?_
    rintro _ s12 ⟨rfl, hD⟩
    replace hH := hH.back0T hD
    clear hD
    dsimp only [addC, setC, rmC, selC, getC] at hH
    try dsimp only [putL, setL, evL, getL]
    refine HL_cons rfl ?_
    refine o_move ?_
    try dsimp only [putL, setL, evL, getL]
    refine HL_cons rfl ?_
    refine o_extract rfl rfl ?_
    try dsimp only [putL, setL, evL, getL]
    refine HL_cons rfl ?_
    refine o_extract rfl rfl ?_
    try dsimp only [putL, setL, evL, getL]
    refine HL_cons rfl ?_
    refine o_assign ?_
    try dsimp only [putL, setL, evL, getL]
    refine HL_cons rfl ?_
    refine o_assign ?_
    try dsimp only [putL, setL, evL, getL]
    refine HL_nil ?_
    refine hK11 _ _ ?_
    refine HT_seq_k ?_
    intro K13 hK13
    refine HT_region ?_
    refine HL_cons rfl ?_
    refine o_move ?_
    try dsimp only [putL, setL, evL, getL]
    refine HL_cons rfl ?_
    refine o_move ?_
    try dsimp only [putL, setL, evL, getL]
    replace H := headE H
    obtain ⟨u14, hu14, H⟩ := H
    refine HL_cons rfl ?_
    refine o_call (args := #[.slice A9 u8.1.length c9, .slice A10 u8.2.length c10]) Try.func17 rfl rfl rfl (spec_DistanceOf.ok s12 s12 no A9 c9 u8.1 A10 c10 u8.2 (hH.rd 0 rfl) (hH.rd 1 rfl) (Hp.own (Bs.refl s12)) _ hu14) ?_
    rintro _ s14 ⟨rfl, hD⟩
    replace hH := hH.back0T hD
    clear hD
    dsimp only [addC, setC, rmC, selC, getC] at hH
    try dsimp only [putL, setL, evL, getL]
    refine HL_cons rfl ?_
    refine o_move ?_
    try dsimp only [putL, setL, evL, getL]
    refine HL_cons rfl ?_
    refine o_extract rfl rfl ?_
    try dsimp only [putL, setL, evL, getL]
    refine HL_cons rfl ?_
    refine o_extract rfl rfl ?_
    try dsimp only [putL, setL, evL, getL]
    refine HL_cons rfl ?_
    refine o_assign ?_
    try dsimp only [putL, setL, evL, getL]
    refine HL_cons rfl ?_
    refine o_assign ?_
    try dsimp only [putL, setL, evL, getL]
    refine HL_nil ?_
    refine hK13 _ _ ?_
    refine HT_seq_k ?_
    intro K15 hK15
    refine HT_region ?_
    refine HL_cons rfl ?_
    refine o_move ?_
    try dsimp only [putL, setL, evL, getL]
    refine HL_cons rfl ?_
    refine o_move ?_
    try dsimp only [putL, setL, evL, getL]
    replace H := headE H
    obtain ⟨u16, hu16, H⟩ := H
    refine HL_cons rfl ?_
    refine o_call (args := #[.slice A10 u8.2.length c10, .slice A9 u8.1.length c9]) Try.func16 rfl rfl rfl (impl_DistanceOf.ok s14 s14 no A10 c10 u8.2 A9 c9 u8.1 (hH.rd 1 rfl) (hH.rd 0 rfl) (Hp.own (Bs.refl s14)) _ hu16) ?_
    rintro _ s16 ⟨rfl, hD⟩
    replace hH := hH.back0T hD
    clear hD
    dsimp only [addC, setC, rmC, selC, getC] at hH
    try dsimp only [putL, setL, evL, getL]
    refine HL_cons rfl ?_
    refine o_move ?_
    try dsimp only [putL, setL, evL, getL]
    refine HL_cons rfl ?_
    refine o_extract rfl rfl ?_
    try dsimp only [putL, setL, evL, getL]
    refine HL_cons rfl ?_
    refine o_extract rfl rfl ?_
    try dsimp only [putL, setL, evL, getL]
    refine HL_cons rfl ?_
    refine o_assign ?_
    try dsimp only [putL, setL, evL, getL]
    refine HL_cons rfl ?_
    refine o_assign ?_
    try dsimp only [putL, setL, evL, getL]
    refine HL_nil ?_
    refine hK15 _ _ ?_
    refine HT_seq_k ?_
    intro K35 hK35
    refine joinH H fun G36 hG36 H => ?_
    refine HT_joinK (fun l' s' => ∃ (x43 : Bool), G36 x43 = some r ∧ l' = [.slice A0p p0.length c0p, .slice A1p p1.length c1p, undef, undef, .bool false, .slice A9 u8.1.length c9, .slice A10 u8.2.length c10, .int .i64 u12.1, .bool u12.2, .int .i64 u14.1, .bool u14.2, .int .i64 u16.1, .bool u16.2, undef, undef, undef, undef, undef, undef, undef, undef, undef, undef, undef, undef, undef, undef, undef, undef, undef, .slice A0p p0.length c0p, .slice A1p p1.length c1p, .bool u4, .tuple #[.slice A9 u8.1.length c9, .slice A10 u8.2.length c10], .slice A0p p0.length c0p, .tuple #[.slice A9 u8.1.length c9, .slice A10 u8.2.length c10], .slice A9 u8.1.length c9, .slice A10 u8.2.length c10, .tuple #[.int .i64 u12.1, .bool u12.2], .slice A9 u8.1.length c9, .slice A10 u8.2.length c10, .tuple #[.int .i64 u12.1, .bool u12.2], .int .i64 u12.1, .bool u12.2, .tuple #[.int .i64 u14.1, .bool u14.2], .slice A9 u8.1.length c9, .slice A10 u8.2.length c10, .tuple #[.int .i64 u14.1, .bool u14.2], .int .i64 u14.1, .bool u14.2, .tuple #[.int .i64 u16.1, .bool u16.2], .slice A10 u8.2.length c10, .slice A9 u8.1.length c9, .tuple #[.int .i64 u16.1, .bool u16.2], .int .i64 u16.1, .bool u16.2, getL l' 56, getL l' 57, getL l' 58, getL l' 59, getL l' 60, getL l' 61, getL l' 62, getL l' 63, getL l' 64, getL l' 65, getL l' 66, getL l' 67, getL l' 68, getL l' 69, getL l' 70, getL l' 71, getL l' 72, getL l' 73, getL l' 74, getL l' 75, getL l' 76, getL l' 77, getL l' 78, getL l' 79, getL l' 80, getL l' 81, getL l' 82, getL l' 83, .bool x43, undef, undef, undef, undef, undef, undef, undef, undef, undef, undef, undef, undef, undef, undef, undef, undef, undef, undef, undef, undef, undef, undef, undef, undef, undef, undef, undef, undef, undef, undef, undef, undef, undef, undef, undef, undef, undef, undef, undef, undef, undef, undef, undef, undef, undef, undef, undef, undef, undef, undef, undef, undef, undef, undef, undef, undef, undef, undef, undef, undef, undef, undef, undef, undef, undef, undef, undef, undef, undef, undef, undef, undef, undef, undef, undef, undef, undef, undef, undef, undef, undef, undef, undef, undef, undef, undef, undef, undef, undef, undef, undef, undef, undef, undef] ∧ Hp sb s F0 s' [Ck.ol OI 3 A9 c9 u8.1, Ck.ol OI 3 A10 c10 u8.2]) ?_ ?_
    · intro K36 hK36
      refine HT_region ?_
      refine HL_cons rfl ?_
      refine o_move ?_
      try dsimp only [putL, setL, evL, getL]
      refine HL_cons rfl ?_
      refine o_move ?_
      try dsimp only [putL, setL, evL, getL]
      refine HL_cons rfl ?_
      refine o_neb rfl rfl Try.underlying4 ?_
      try dsimp only [putL, setL, evL, getL]
      refine HL_cons rfl ?_
      refine o_move ?_
      try dsimp only [putL, setL, evL, getL]
      rcases Bool.eq_false_or_eq_true (u12.2 != u14.2) with hb44 | hb44
      · replace H := iteT hb44 H
        refine HL_skip ?_ ?_
        · exact wantF (j := 3) (b := false) (t := 59) (c := u12.2 != u14.2) rfl rfl rfl rfl hb44
        try dsimp only [putL, setL, evL, getL]
        refine HL_skip ?_ ?_
        · exact wantF (j := 3) (b := false) (t := 59) (c := u12.2 != u14.2) rfl rfl rfl rfl hb44
        try dsimp only [putL, setL, evL, getL]
        refine HL_skip ?_ ?_
        · exact wantF (j := 3) (b := false) (t := 59) (c := u12.2 != u14.2) rfl rfl rfl rfl hb44
        try dsimp only [putL, setL, evL, getL]
        refine HL_cons rfl ?_
        refine o_pickT rfl hb44 ?_
        try dsimp only [putL, setL, evL, getL]
        refine HL_cons rfl ?_
        refine o_move ?_
        try dsimp only [putL, setL, evL, getL]
        refine HL_skip ?_ ?_
        · exact wantF (j := 8) (b := false) (t := 64) (c := true) rfl rfl rfl rfl rfl
        try dsimp only [putL, setL, evL, getL]
        refine HL_skip ?_ ?_
        · exact wantF (j := 8) (b := false) (t := 64) (c := true) rfl rfl rfl rfl rfl
        try dsimp only [putL, setL, evL, getL]
        refine HL_skip ?_ ?_
        · exact wantF (j := 8) (b := false) (t := 64) (c := true) rfl rfl rfl rfl rfl
        try dsimp only [putL, setL, evL, getL]
        refine HL_cons rfl ?_
        refine o_pickT rfl rfl ?_
        try dsimp only [putL, setL, evL, getL]
        refine HL_cons rfl ?_
        refine o_move ?_
        try dsimp only [putL, setL, evL, getL]
        refine HL_skip ?_ ?_
        · exact wantF (j := 13) (b := false) (t := 69) (c := true) rfl rfl rfl rfl rfl
        try dsimp only [putL, setL, evL, getL]
        refine HL_skip ?_ ?_
        · exact wantF (j := 13) (b := false) (t := 69) (c := true) rfl rfl rfl rfl rfl
        try dsimp only [putL, setL, evL, getL]
        refine HL_skip ?_ ?_
        · exact wantF (j := 13) (b := false) (t := 69) (c := true) rfl rfl rfl rfl rfl
        try dsimp only [putL, setL, evL, getL]
        refine HL_cons rfl ?_
        refine o_pickT rfl rfl ?_
        try dsimp only [putL, setL, evL, getL]
        refine HL_cons rfl ?_
        refine o_move ?_
        try dsimp only [putL, setL, evL, getL]
        refine HL_skip ?_ ?_
        · exact wantF (j := 18) (b := false) (t := 74) (c := true) rfl rfl rfl rfl rfl
        try dsimp only [putL, setL, evL, getL]
        refine HL_skip ?_ ?_
        · exact wantF (j := 18) (b := false) (t := 74) (c := true) rfl rfl rfl rfl rfl
        try dsimp only [putL, setL, evL, getL]
        refine HL_skip ?_ ?_
        · exact wantU (j := 20) (b := true) (t := 76) rfl rfl rfl rfl
        try dsimp only [putL, setL, evL, getL]
        refine HL_skip ?_ ?_
        · exact wantU (j := 20) (b := true) (t := 76) rfl rfl rfl rfl
        try dsimp only [putL, setL, evL, getL]
        refine HL_skip ?_ ?_
        · exact wantU (j := 20) (b := true) (t := 76) rfl rfl rfl rfl
        try dsimp only [putL, setL, evL, getL]
        refine HL_skip ?_ ?_
        · exact wantU (j := 20) (b := true) (t := 76) rfl rfl rfl rfl
        try dsimp only [putL, setL, evL, getL]
        refine HL_skip ?_ ?_
        · exact wantU (j := 20) (b := true) (t := 76) rfl rfl rfl rfl
        try dsimp only [putL, setL, evL, getL]
        refine HL_skip ?_ ?_
        · exact wantU (j := 20) (b := true) (t := 76) rfl rfl rfl rfl
        try dsimp only [putL, setL, evL, getL]
        refine HL_skip ?_ ?_
        · exact wantF (j := 18) (b := false) (t := 74) (c := true) rfl rfl rfl rfl rfl
        try dsimp only [putL, setL, evL, getL]
        refine HL_cons rfl ?_
        refine o_pickT rfl rfl ?_
        try dsimp only [putL, setL, evL, getL]
        refine HL_nil ?_
        exact hK36 _ _ ⟨true, H, rfl, hH⟩
      · replace H := iteF hb44 H
        refine HL_want ?_ ?_
        · exact wantT (j := 3) (b := false) (t := 59) (c := u12.2 != u14.2) rfl rfl rfl rfl hb44
        refine o_move ?_
        try dsimp only [putL, setL, evL, getL]
        refine HL_want ?_ ?_
        · exact wantT (j := 3) (b := false) (t := 59) (c := u12.2 != u14.2) rfl rfl rfl rfl hb44
        refine o_move ?_
        try dsimp only [putL, setL, evL, getL]
        refine HL_want ?_ ?_
        · exact wantT (j := 3) (b := false) (t := 59) (c := u12.2 != u14.2) rfl rfl rfl rfl hb44
        refine o_bin rfl rfl rfl ?_
        try dsimp only [putL, setL, evL, getL]
        refine HL_cons rfl ?_
        refine o_pickF rfl hb44 ?_
        try dsimp only [putL, setL, evL, getL]
        refine HL_cons rfl ?_
        refine o_move ?_
        try dsimp only [putL, setL, evL, getL]
        rcases Bool.eq_false_or_eq_true (u12.1 != u14.1) with hb45 | hb45
        · replace H := iteT hb45 H
          refine HL_skip ?_ ?_
          · exact wantF (j := 8) (b := false) (t := 64) (c := u12.1 != u14.1) rfl rfl rfl rfl hb45
          try dsimp only [putL, setL, evL, getL]
          refine HL_skip ?_ ?_
          · exact wantF (j := 8) (b := false) (t := 64) (c := u12.1 != u14.1) rfl rfl rfl rfl hb45
          try dsimp only [putL, setL, evL, getL]
          refine HL_skip ?_ ?_
          · exact wantF (j := 8) (b := false) (t := 64) (c := u12.1 != u14.1) rfl rfl rfl rfl hb45
          try dsimp only [putL, setL, evL, getL]
          refine HL_cons rfl ?_
          refine o_pickT rfl hb45 ?_
          try dsimp only [putL, setL, evL, getL]
          refine HL_cons rfl ?_
          refine o_move ?_
          try dsimp only [putL, setL, evL, getL]
          refine HL_skip ?_ ?_
          · exact wantF (j := 13) (b := false) (t := 69) (c := true) rfl rfl rfl rfl rfl
          try dsimp only [putL, setL, evL, getL]
          refine HL_skip ?_ ?_
          · exact wantF (j := 13) (b := false) (t := 69) (c := true) rfl rfl rfl rfl rfl
          try dsimp only [putL, setL, evL, getL]
          refine HL_skip ?_ ?_
          · exact wantF (j := 13) (b := false) (t := 69) (c := true) rfl rfl rfl rfl rfl
          try dsimp only [putL, setL, evL, getL]
          refine HL_cons rfl ?_
          refine o_pickT rfl rfl ?_
          try dsimp only [putL, setL, evL, getL]
          refine HL_cons rfl ?_
          refine o_move ?_
          try dsimp only [putL, setL, evL, getL]
          refine HL_skip ?_ ?_
          · exact wantF (j := 18) (b := false) (t := 74) (c := true) rfl rfl rfl rfl rfl
          try dsimp only [putL, setL, evL, getL]
          refine HL_skip ?_ ?_
          · exact wantF (j := 18) (b := false) (t := 74) (c := true) rfl rfl rfl rfl rfl
          try dsimp only [putL, setL, evL, getL]
          refine HL_skip ?_ ?_
          · exact wantU (j := 20) (b := true) (t := 76) rfl rfl rfl rfl
          try dsimp only [putL, setL, evL, getL]
          refine HL_skip ?_ ?_
          · exact wantU (j := 20) (b := true) (t := 76) rfl rfl rfl rfl
          try dsimp only [putL, setL, evL, getL]
          refine HL_skip ?_ ?_
          · exact wantU (j := 20) (b := true) (t := 76) rfl rfl rfl rfl
          try dsimp only [putL, setL, evL, getL]
          refine HL_skip ?_ ?_
          · exact wantU (j := 20) (b := true) (t := 76) rfl rfl rfl rfl
          try dsimp only [putL, setL, evL, getL]
          refine HL_skip ?_ ?_
          · exact wantU (j := 20) (b := true) (t := 76) rfl rfl rfl rfl
          try dsimp only [putL, setL, evL, getL]
          refine HL_skip ?_ ?_
          · exact wantU (j := 20) (b := true) (t := 76) rfl rfl rfl rfl
          try dsimp only [putL, setL, evL, getL]
          refine HL_skip ?_ ?_
          · exact wantF (j := 18) (b := false) (t := 74) (c := true) rfl rfl rfl rfl rfl
          try dsimp only [putL, setL, evL, getL]
          refine HL_cons rfl ?_
          refine o_pickT rfl rfl ?_
          try dsimp only [putL, setL, evL, getL]
          refine HL_nil ?_
          exact hK36 _ _ ⟨true, H, rfl, hH⟩
        · replace H := iteF hb45 H
          refine HL_want ?_ ?_
          · exact wantT (j := 8) (b := false) (t := 64) (c := u12.1 != u14.1) rfl rfl rfl rfl hb45
          refine o_move ?_
          try dsimp only [putL, setL, evL, getL]
          refine HL_want ?_ ?_
          · exact wantT (j := 8) (b := false) (t := 64) (c := u12.1 != u14.1) rfl rfl rfl rfl hb45
          refine o_move ?_
          try dsimp only [putL, setL, evL, getL]
          refine HL_want ?_ ?_
          · exact wantT (j := 8) (b := false) (t := 64) (c := u12.1 != u14.1) rfl rfl rfl rfl hb45
          refine o_neb rfl rfl Try.underlying4 ?_
          try dsimp only [putL, setL, evL, getL]
          refine HL_cons rfl ?_
          refine o_pickF rfl hb45 ?_
          try dsimp only [putL, setL, evL, getL]
          refine HL_cons rfl ?_
          refine o_move ?_
          try dsimp only [putL, setL, evL, getL]
          rcases Bool.eq_false_or_eq_true (u12.2 != u16.2) with hb46 | hb46
          · replace H := iteT hb46 H
            refine HL_skip ?_ ?_
            · exact wantF (j := 13) (b := false) (t := 69) (c := u12.2 != u16.2) rfl rfl rfl rfl hb46
            try dsimp only [putL, setL, evL, getL]
            refine HL_skip ?_ ?_
            · exact wantF (j := 13) (b := false) (t := 69) (c := u12.2 != u16.2) rfl rfl rfl rfl hb46
            try dsimp only [putL, setL, evL, getL]
            refine HL_skip ?_ ?_
            · exact wantF (j := 13) (b := false) (t := 69) (c := u12.2 != u16.2) rfl rfl rfl rfl hb46
            try dsimp only [putL, setL, evL, getL]
            refine HL_cons rfl ?_
            refine o_pickT rfl hb46 ?_
            try dsimp only [putL, setL, evL, getL]
            refine HL_cons rfl ?_
            refine o_move ?_
            try dsimp only [putL, setL, evL, getL]
            refine HL_skip ?_ ?_
            · exact wantF (j := 18) (b := false) (t := 74) (c := true) rfl rfl rfl rfl rfl
            try dsimp only [putL, setL, evL, getL]
            refine HL_skip ?_ ?_
            · exact wantF (j := 18) (b := false) (t := 74) (c := true) rfl rfl rfl rfl rfl
            try dsimp only [putL, setL, evL, getL]
            refine HL_skip ?_ ?_
            · exact wantU (j := 20) (b := true) (t := 76) rfl rfl rfl rfl
            try dsimp only [putL, setL, evL, getL]
            refine HL_skip ?_ ?_
            · exact wantU (j := 20) (b := true) (t := 76) rfl rfl rfl rfl
            try dsimp only [putL, setL, evL, getL]
            refine HL_skip ?_ ?_
            · exact wantU (j := 20) (b := true) (t := 76) rfl rfl rfl rfl
            try dsimp only [putL, setL, evL, getL]
            refine HL_skip ?_ ?_
            · exact wantU (j := 20) (b := true) (t := 76) rfl rfl rfl rfl
            try dsimp only [putL, setL, evL, getL]
            refine HL_skip ?_ ?_
            · exact wantU (j := 20) (b := true) (t := 76) rfl rfl rfl rfl
            try dsimp only [putL, setL, evL, getL]
            refine HL_skip ?_ ?_
            · exact wantU (j := 20) (b := true) (t := 76) rfl rfl rfl rfl
            try dsimp only [putL, setL, evL, getL]
            refine HL_skip ?_ ?_
            · exact wantF (j := 18) (b := false) (t := 74) (c := true) rfl rfl rfl rfl rfl
            try dsimp only [putL, setL, evL, getL]
            refine HL_cons rfl ?_
            refine o_pickT rfl rfl ?_
            try dsimp only [putL, setL, evL, getL]
            refine HL_nil ?_
            exact hK36 _ _ ⟨true, H, rfl, hH⟩
          · replace H := iteF hb46 H
            refine HL_want ?_ ?_
            · exact wantT (j := 13) (b := false) (t := 69) (c := u12.2 != u16.2) rfl rfl rfl rfl hb46
            refine o_move ?_
            try dsimp only [putL, setL, evL, getL]
            refine HL_want ?_ ?_
            · exact wantT (j := 13) (b := false) (t := 69) (c := u12.2 != u16.2) rfl rfl rfl rfl hb46
            refine o_move ?_
            try dsimp only [putL, setL, evL, getL]
            refine HL_want ?_ ?_
            · exact wantT (j := 13) (b := false) (t := 69) (c := u12.2 != u16.2) rfl rfl rfl rfl hb46
            refine o_bin rfl rfl rfl ?_
            try dsimp only [putL, setL, evL, getL]
            refine HL_cons rfl ?_
            refine o_pickF rfl hb46 ?_
            try dsimp only [putL, setL, evL, getL]
            refine HL_cons rfl ?_
            refine o_move ?_
            try dsimp only [putL, setL, evL, getL]
            rcases Bool.eq_false_or_eq_true (u12.1 != u16.1) with hb47 | hb47
            · replace H := iteT hb47 H
              refine HL_skip ?_ ?_
              · exact wantF (j := 18) (b := false) (t := 74) (c := u12.1 != u16.1) rfl rfl rfl rfl hb47
              try dsimp only [putL, setL, evL, getL]
              refine HL_skip ?_ ?_
              · exact wantF (j := 18) (b := false) (t := 74) (c := u12.1 != u16.1) rfl rfl rfl rfl hb47
              try dsimp only [putL, setL, evL, getL]
              refine HL_skip ?_ ?_
              · exact wantU (j := 20) (b := true) (t := 76) rfl rfl rfl rfl
              try dsimp only [putL, setL, evL, getL]
              refine HL_skip ?_ ?_
              · exact wantU (j := 20) (b := true) (t := 76) rfl rfl rfl rfl
              try dsimp only [putL, setL, evL, getL]
              refine HL_skip ?_ ?_
              · exact wantU (j := 20) (b := true) (t := 76) rfl rfl rfl rfl
              try dsimp only [putL, setL, evL, getL]
              refine HL_skip ?_ ?_
              · exact wantU (j := 20) (b := true) (t := 76) rfl rfl rfl rfl
              try dsimp only [putL, setL, evL, getL]
              refine HL_skip ?_ ?_
              · exact wantU (j := 20) (b := true) (t := 76) rfl rfl rfl rfl
              try dsimp only [putL, setL, evL, getL]
              refine HL_skip ?_ ?_
              · exact wantU (j := 20) (b := true) (t := 76) rfl rfl rfl rfl
              try dsimp only [putL, setL, evL, getL]
              refine HL_skip ?_ ?_
              · exact wantF (j := 18) (b := false) (t := 74) (c := u12.1 != u16.1) rfl rfl rfl rfl hb47
              try dsimp only [putL, setL, evL, getL]
              refine HL_cons rfl ?_
              refine o_pickT rfl hb47 ?_
              try dsimp only [putL, setL, evL, getL]
              refine HL_nil ?_
              exact hK36 _ _ ⟨true, H, rfl, hH⟩
            · replace H := iteF hb47 H
              refine HL_want ?_ ?_
              · exact wantT (j := 18) (b := false) (t := 74) (c := u12.1 != u16.1) rfl rfl rfl rfl hb47
              refine o_move ?_
              try dsimp only [putL, setL, evL, getL]
              refine HL_want ?_ ?_
              · exact wantT (j := 18) (b := false) (t := 74) (c := u12.1 != u16.1) rfl rfl rfl rfl hb47
              refine o_move ?_
              try dsimp only [putL, setL, evL, getL]
              rcases Bool.eq_false_or_eq_true u12.2 with hb48 | hb48
              · replace H := iteT hb48 H
                refine HL_want ?_ ?_
                · exact wantT (j := 20) (b := true) (t := 76) (c := u12.2) rfl rfl rfl rfl hb48
                refine o_move ?_
                try dsimp only [putL, setL, evL, getL]
                refine HL_want ?_ ?_
                · exact wantT (j := 20) (b := true) (t := 76) (c := u12.2) rfl rfl rfl rfl hb48
                refine o_bin rfl rfl rfl ?_
                try dsimp only [putL, setL, evL, getL]
                refine HL_want ?_ ?_
                · exact wantT (j := 20) (b := true) (t := 76) (c := u12.2) rfl rfl rfl rfl hb48
                refine o_move ?_
                try dsimp only [putL, setL, evL, getL]
                refine HL_want ?_ ?_
                · exact wantT (j := 20) (b := true) (t := 76) (c := u12.2) rfl rfl rfl rfl hb48
                refine o_move ?_
                try dsimp only [putL, setL, evL, getL]
                replace H := headE H
                obtain ⟨u49, hu49, H⟩ := H
                refine HL_want ?_ ?_
                · exact wantT (j := 20) (b := true) (t := 76) (c := u12.2) rfl rfl rfl rfl hb48
                refine o_call (args := #[.slice A9 u8.1.length c9, .slice A10 u8.2.length c10]) Try.func18 rfl rfl rfl (laws_sameInts.ok s16 s16 no A9 c9 u8.1 A10 c10 u8.2 (hH.rd 0 rfl) (hH.rd 1 rfl) (Hp.own (Bs.refl s16)) _ hu49) ?_
                rintro _ s49 ⟨rfl, hD⟩
                replace hH := hH.back0T hD
                clear hD
                dsimp only [addC, setC, rmC, selC, getC] at hH
                try dsimp only [putL, setL, evL, getL]
                refine HL_want ?_ ?_
                · exact wantT (j := 20) (b := true) (t := 76) (c := u12.2) rfl rfl rfl rfl hb48
                refine o_neb rfl rfl Try.underlying4 ?_
                try dsimp only [putL, setL, evL, getL]
                refine HL_want ?_ ?_
                · exact wantT (j := 18) (b := false) (t := 74) (c := u12.1 != u16.1) rfl rfl rfl rfl hb47
                refine o_pickT rfl hb48 ?_
                try dsimp only [putL, setL, evL, getL]
                refine HL_cons rfl ?_
                refine o_pickF rfl hb47 ?_
                try dsimp only [putL, setL, evL, getL]
                refine HL_nil ?_
                exact hK36 _ _ ⟨(u12.1 == 0) != u49, H, rfl, hH⟩
              · replace H := iteF hb48 H
                refine HL_skip ?_ ?_
                · exact wantF (j := 20) (b := true) (t := 76) (c := u12.2) rfl rfl rfl rfl hb48
                try dsimp only [putL, setL, evL, getL]
                refine HL_skip ?_ ?_
                · exact wantF (j := 20) (b := true) (t := 76) (c := u12.2) rfl rfl rfl rfl hb48
                try dsimp only [putL, setL, evL, getL]
                refine HL_skip ?_ ?_
                · exact wantF (j := 20) (b := true) (t := 76) (c := u12.2) rfl rfl rfl rfl hb48
                try dsimp only [putL, setL, evL, getL]
                refine HL_skip ?_ ?_
                · exact wantF (j := 20) (b := true) (t := 76) (c := u12.2) rfl rfl rfl rfl hb48
                try dsimp only [putL, setL, evL, getL]
                refine HL_skip ?_ ?_
                · exact wantF (j := 20) (b := true) (t := 76) (c := u12.2) rfl rfl rfl rfl hb48
                try dsimp only [putL, setL, evL, getL]
                refine HL_skip ?_ ?_
                · exact wantF (j := 20) (b := true) (t := 76) (c := u12.2) rfl rfl rfl rfl hb48
                try dsimp only [putL, setL, evL, getL]
                refine HL_want ?_ ?_
                · exact wantT (j := 18) (b := false) (t := 74) (c := u12.1 != u16.1) rfl rfl rfl rfl hb47
                refine o_pickF rfl hb48 ?_
                try dsimp only [putL, setL, evL, getL]
                refine HL_cons rfl ?_
                refine o_pickF rfl hb47 ?_
                try dsimp only [putL, setL, evL, getL]
                refine HL_nil ?_
                exact hK36 _ _ ⟨false, H, rfl, hH⟩
    · rintro l' s50 ⟨x43, H, hl, hH⟩
      generalize getL l' 56 = j56, getL l' 57 = j57, getL l' 58 = j58, getL l' 59 = j59, getL l' 60 = j60, getL l' 61 = j61, getL l' 62 = j62, getL l' 63 = j63, getL l' 64 = j64, getL l' 65 = j65, getL l' 66 = j66, getL l' 67 = j67, getL l' 68 = j68, getL l' 69 = j69, getL l' 70 = j70, getL l' 71 = j71, getL l' 72 = j72, getL l' 73 = j73, getL l' 74 = j74, getL l' 75 = j75, getL l' 76 = j76, getL l' 77 = j77, getL l' 78 = j78, getL l' 79 = j79, getL l' 80 = j80, getL l' 81 = j81, getL l' 82 = j82, getL l' 83 = j83 at hl
      subst hl
      replace H := hG36 _ H
      try dsimp only at H
      rcases Bool.eq_false_or_eq_true x43 with hb51 | hb51
      · replace H := iteT hb51 H
        refine HT_true (congrArg Value.bool hb51) ?_
        refine HT_seq_k ?_
        intro K52 hK52
        refine HT_region ?_
        refine HL_cons rfl ?_
        refine o_assign ?_
        try dsimp only [putL, setL, evL, getL]
        refine HL_nil ?_
        refine hK52 _ _ ?_
        refine HT_ret ?_
        exact hQr _ _ [.bool false] ⟨rfl, trivial⟩ (retH (fun r => laws_FnDistance.post sb s F0 r _ _) (show some _ = some r from H) ⟨rfl, hH.sel [] (by decide)⟩)
      · replace H := iteF hb51 H
        refine HT_false (congrArg Value.bool hb51) ?_
        refine HT_skip ?_
        refine hK35 _ _ ?_
        refine HT_seq_k ?_
        intro K53 hK53
        refine HT_region ?_
        refine HL_cons rfl ?_
        refine o_move ?_
        try dsimp only [putL, setL, evL, getL]
        replace H := headE H
        obtain ⟨u54, hu54, H⟩ := H
        refine HL_cons rfl ?_
        refine o_call (args := #[.slice A1p p1.length c1p]) Try.func19 rfl rfl rfl (laws_wordOf.ok sb s50 no A1p c1p p1 HRp1 (Hp.own hH.bs) _ hu54) ?_
        rintro _ s54 ⟨A55, c55, rfl, hD⟩
        replace hH := hH.back0 hD (Up.refl _ _ _)
        clear hD
        dsimp only [addC, setC, rmC, selC, getC] at hH
        try dsimp only [putL, setL, evL, getL]
        refine HL_cons rfl ?_
        refine o_assign ?_
        try dsimp only [putL, setL, evL, getL]
        refine HL_nil ?_
        refine hK53 _ _ ?_
        refine HT_seq_k ?_
        intro K56 hK56
        refine HT_region ?_
        refine HL_cons rfl ?_
        refine o_move ?_
        try dsimp only [putL, setL, evL, getL]
        refine HL_cons rfl ?_
        refine o_move ?_
        try dsimp only [putL, setL, evL, getL]
        replace H := headE H
        obtain ⟨u57, hu57, H⟩ := H
        refine HL_cons rfl ?_
        refine o_call (args := #[.slice A9 u8.1.length c9, .slice A55 u54.length c55]) Try.func16 rfl rfl rfl (impl_DistanceOf.ok s54 s54 no A9 c9 u8.1 A55 c55 u54 (hH.rd 0 rfl) (hH.rd 2 rfl) (Hp.own (Bs.refl s54)) _ hu57) ?_
        rintro _ s57 ⟨rfl, hD⟩
        replace hH := hH.back0T hD
        clear hD
        dsimp only [addC, setC, rmC, selC, getC] at hH
        try dsimp only [putL, setL, evL, getL]
        refine HL_cons rfl ?_
        refine o_move ?_
        try dsimp only [putL, setL, evL, getL]
        refine HL_cons rfl ?_
        refine o_extract rfl rfl ?_
        try dsimp only [putL, setL, evL, getL]
        refine HL_cons rfl ?_
        refine o_extract rfl rfl ?_
        try dsimp only [putL, setL, evL, getL]
        refine HL_cons rfl ?_
        refine o_assign ?_
        try dsimp only [putL, setL, evL, getL]
        refine HL_cons rfl ?_
        refine o_assign ?_
        try dsimp only [putL, setL, evL, getL]
        refine HL_nil ?_
        refine hK56 _ _ ?_
        refine HT_seq_k ?_
        intro K58 hK58
        refine HT_region ?_
        refine HL_cons rfl ?_
        refine o_move ?_
        try dsimp only [putL, setL, evL, getL]
        refine HL_cons rfl ?_
        refine o_move ?_
        try dsimp only [putL, setL, evL, getL]
        replace H := headE H
        obtain ⟨u59, hu59, H⟩ := H
        refine HL_cons rfl ?_
        refine o_call (args := #[.slice A55 u54.length c55, .slice A10 u8.2.length c10]) Try.func16 rfl rfl rfl (impl_DistanceOf.ok s57 s57 no A55 c55 u54 A10 c10 u8.2 (hH.rd 2 rfl) (hH.rd 1 rfl) (Hp.own (Bs.refl s57)) _ hu59) ?_
        rintro _ s59 ⟨rfl, hD⟩
        replace hH := hH.back0T hD
        clear hD
        dsimp only [addC, setC, rmC, selC, getC] at hH
        try dsimp only [putL, setL, evL, getL]
        refine HL_cons rfl ?_
        refine o_move ?_
        try dsimp only [putL, setL, evL, getL]
        refine HL_cons rfl ?_
        refine o_extract rfl rfl ?_
        try dsimp only [putL, setL, evL, getL]
        refine HL_cons rfl ?_
        refine o_extract rfl rfl ?_
        try dsimp only [putL, setL, evL, getL]
        refine HL_cons rfl ?_
        refine o_assign ?_
        try dsimp only [putL, setL, evL, getL]
        refine HL_cons rfl ?_
        refine o_assign ?_
        try dsimp only [putL, setL, evL, getL]
        refine HL_nil ?_
        refine hK58 _ _ ?_
        refine HT_seq_k ?_
        intro K72 hK72
        refine joinH H fun G73 hG73 H => ?_
        refine HT_joinK (fun l' s' => ∃ (x77 : Bool), G73 x77 = some r ∧ l' = [.slice A0p p0.length c0p, .slice A1p p1.length c1p, undef, undef, .bool false, .slice A9 u8.1.length c9, .slice A10 u8.2.length c10, .int .i64 u12.1, .bool u12.2, .int .i64 u14.1, .bool u14.2, .int .i64 u16.1, .bool u16.2, .slice A55 u54.length c55, .int .i64 u57.1, .bool u57.2, .int .i64 u59.1, .bool u59.2, undef, undef, undef, undef, undef, undef, undef, undef, undef, undef, undef, undef, .slice A0p p0.length c0p, .slice A1p p1.length c1p, .bool u4, .tuple #[.slice A9 u8.1.length c9, .slice A10 u8.2.length c10], .slice A0p p0.length c0p, .tuple #[.slice A9 u8.1.length c9, .slice A10 u8.2.length c10], .slice A9 u8.1.length c9, .slice A10 u8.2.length c10, .tuple #[.int .i64 u12.1, .bool u12.2], .slice A9 u8.1.length c9, .slice A10 u8.2.length c10, .tuple #[.int .i64 u12.1, .bool u12.2], .int .i64 u12.1, .bool u12.2, .tuple #[.int .i64 u14.1, .bool u14.2], .slice A9 u8.1.length c9, .slice A10 u8.2.length c10, .tuple #[.int .i64 u14.1, .bool u14.2], .int .i64 u14.1, .bool u14.2, .tuple #[.int .i64 u16.1, .bool u16.2], .slice A10 u8.2.length c10, .slice A9 u8.1.length c9, .tuple #[.int .i64 u16.1, .bool u16.2], .int .i64 u16.1, .bool u16.2, j56, j57, j58, j59, j60, j61, j62, j63, j64, j65, j66, j67, j68, j69, j70, j71, j72, j73, j74, j75, j76, j77, j78, j79, j80, j81, j82, j83, .bool x43, .slice A1p p1.length c1p, .slice A55 u54.length c55, .tuple #[.int .i64 u57.1, .bool u57.2], .slice A9 u8.1.length c9, .slice A55 u54.length c55, .tuple #[.int .i64 u57.1, .bool u57.2], .int .i64 u57.1, .bool u57.2, .tuple #[.int .i64 u59.1, .bool u59.2], .slice A55 u54.length c55, .slice A10 u8.2.length c10, .tuple #[.int .i64 u59.1, .bool u59.2], .int .i64 u59.1, .bool u59.2, getL l' 99, getL l' 100, getL l' 101, getL l' 102, getL l' 103, getL l' 104, getL l' 105, getL l' 106, getL l' 107, getL l' 108, getL l' 109, getL l' 110, getL l' 111, getL l' 112, getL l' 113, .bool x77, undef, undef, undef, undef, undef, undef, undef, undef, undef, undef, undef, undef, undef, undef, undef, undef, undef, undef, undef, undef, undef, undef, undef, undef, undef, undef, undef, undef, undef, undef, undef, undef, undef, undef, undef, undef, undef, undef, undef, undef, undef, undef, undef, undef, undef, undef, undef, undef, undef, undef, undef, undef, undef, undef, undef, undef, undef, undef, undef, undef, undef, undef, undef, undef] ∧ Hp sb s F0 s' []) ?_ ?_
        · intro K73 hK73
          refine HT_region ?_
          refine HL_cons rfl ?_
          refine o_move ?_
          try dsimp only [putL, setL, evL, getL]
          refine HL_cons rfl ?_
          refine o_move ?_
          try dsimp only [putL, setL, evL, getL]
          rcases Bool.eq_false_or_eq_true u12.2 with hb78 | hb78
          · replace H := iteT hb78 H
            refine HL_want ?_ ?_
            · exact wantT (j := 1) (b := true) (t := 100) (c := u12.2) rfl rfl rfl rfl hb78
            refine o_move ?_
            try dsimp only [putL, setL, evL, getL]
            refine HL_want ?_ ?_
            · exact wantT (j := 1) (b := true) (t := 100) (c := u12.2) rfl rfl rfl rfl hb78
            refine o_not rfl ?_
            try dsimp only [putL, setL, evL, getL]
            refine HL_want ?_ ?_
            · exact wantT (j := 1) (b := true) (t := 100) (c := u12.2) rfl rfl rfl rfl hb78
            refine o_move ?_
            try dsimp only [putL, setL, evL, getL]
            rcases Bool.eq_false_or_eq_true (!u57.2) with hb79 | hb79
            · replace H := iteT hb79 H
              refine HL_skip ?_ ?_
              · exact wantF (j := 4) (b := false) (t := 103) (c := !u57.2) rfl rfl rfl rfl hb79
              try dsimp only [putL, setL, evL, getL]
              refine HL_skip ?_ ?_
              · exact wantF (j := 4) (b := false) (t := 103) (c := !u57.2) rfl rfl rfl rfl hb79
              try dsimp only [putL, setL, evL, getL]
              refine HL_want ?_ ?_
              · exact wantT (j := 1) (b := true) (t := 100) (c := u12.2) rfl rfl rfl rfl hb78
              refine o_pickT rfl hb79 ?_
              try dsimp only [putL, setL, evL, getL]
              refine HL_want ?_ ?_
              · exact wantT (j := 1) (b := true) (t := 100) (c := u12.2) rfl rfl rfl rfl hb78
              refine o_move ?_
              try dsimp only [putL, setL, evL, getL]
              refine HL_skip ?_ ?_
              · exact wantF (j := 8) (b := false) (t := 107) (c := true) rfl rfl rfl rfl rfl
              try dsimp only [putL, setL, evL, getL]
              refine HL_skip ?_ ?_
              · exact wantF (j := 8) (b := false) (t := 107) (c := true) rfl rfl rfl rfl rfl
              try dsimp only [putL, setL, evL, getL]
              refine HL_skip ?_ ?_
              · exact wantF (j := 8) (b := false) (t := 107) (c := true) rfl rfl rfl rfl rfl
              try dsimp only [putL, setL, evL, getL]
              refine HL_skip ?_ ?_
              · exact wantF (j := 8) (b := false) (t := 107) (c := true) rfl rfl rfl rfl rfl
              try dsimp only [putL, setL, evL, getL]
              refine HL_skip ?_ ?_
              · exact wantF (j := 8) (b := false) (t := 107) (c := true) rfl rfl rfl rfl rfl
              try dsimp only [putL, setL, evL, getL]
              refine HL_want ?_ ?_
              · exact wantT (j := 1) (b := true) (t := 100) (c := u12.2) rfl rfl rfl rfl hb78
              refine o_pickT rfl rfl ?_
              try dsimp only [putL, setL, evL, getL]
              refine HL_cons rfl ?_
              refine o_pickT rfl hb78 ?_
              try dsimp only [putL, setL, evL, getL]
              refine HL_nil ?_
              exact hK73 _ _ ⟨true, H, rfl, hH.sel [] (by decide)⟩
            · replace H := iteF hb79 H
              refine HL_want ?_ ?_
              · exact wantT (j := 4) (b := false) (t := 103) (c := !u57.2) rfl rfl rfl rfl hb79
              refine o_move ?_
              try dsimp only [putL, setL, evL, getL]
              refine HL_want ?_ ?_
              · exact wantT (j := 4) (b := false) (t := 103) (c := !u57.2) rfl rfl rfl rfl hb79
              refine o_not rfl ?_
              try dsimp only [putL, setL, evL, getL]
              refine HL_want ?_ ?_
              · exact wantT (j := 1) (b := true) (t := 100) (c := u12.2) rfl rfl rfl rfl hb78
              refine o_pickF rfl hb79 ?_
              try dsimp only [putL, setL, evL, getL]
              refine HL_want ?_ ?_
              · exact wantT (j := 1) (b := true) (t := 100) (c := u12.2) rfl rfl rfl rfl hb78
              refine o_move ?_
              try dsimp only [putL, setL, evL, getL]
              rcases Bool.eq_false_or_eq_true (!u59.2) with hb80 | hb80
              · replace H := iteT hb80 H
                refine HL_skip ?_ ?_
                · exact wantF (j := 8) (b := false) (t := 107) (c := !u59.2) rfl rfl rfl rfl hb80
                try dsimp only [putL, setL, evL, getL]
                refine HL_skip ?_ ?_
                · exact wantF (j := 8) (b := false) (t := 107) (c := !u59.2) rfl rfl rfl rfl hb80
                try dsimp only [putL, setL, evL, getL]
                refine HL_skip ?_ ?_
                · exact wantF (j := 8) (b := false) (t := 107) (c := !u59.2) rfl rfl rfl rfl hb80
                try dsimp only [putL, setL, evL, getL]
                refine HL_skip ?_ ?_
                · exact wantF (j := 8) (b := false) (t := 107) (c := !u59.2) rfl rfl rfl rfl hb80
                try dsimp only [putL, setL, evL, getL]
                refine HL_skip ?_ ?_
                · exact wantF (j := 8) (b := false) (t := 107) (c := !u59.2) rfl rfl rfl rfl hb80
                try dsimp only [putL, setL, evL, getL]
                refine HL_want ?_ ?_
                · exact wantT (j := 1) (b := true) (t := 100) (c := u12.2) rfl rfl rfl rfl hb78
                refine o_pickT rfl hb80 ?_
                try dsimp only [putL, setL, evL, getL]
                refine HL_cons rfl ?_
                refine o_pickT rfl hb78 ?_
                try dsimp only [putL, setL, evL, getL]
                refine HL_nil ?_
                exact hK73 _ _ ⟨true, H, rfl, hH.sel [] (by decide)⟩
              · replace H := iteF hb80 H
                refine HL_want ?_ ?_
                · exact wantT (j := 8) (b := false) (t := 107) (c := !u59.2) rfl rfl rfl rfl hb80
                refine o_move ?_
                try dsimp only [putL, setL, evL, getL]
                refine HL_want ?_ ?_
                · exact wantT (j := 8) (b := false) (t := 107) (c := !u59.2) rfl rfl rfl rfl hb80
                refine o_move ?_
                try dsimp only [putL, setL, evL, getL]
                refine HL_want ?_ ?_
                · exact wantT (j := 8) (b := false) (t := 107) (c := !u59.2) rfl rfl rfl rfl hb80
                refine o_move ?_
                try dsimp only [putL, setL, evL, getL]
                refine HL_want ?_ ?_
                · exact wantT (j := 8) (b := false) (t := 107) (c := !u59.2) rfl rfl rfl rfl hb80
                refine o_bin rfl rfl rfl ?_
                try dsimp only [putL, setL, evL, getL]
                refine HL_want ?_ ?_
                · exact wantT (j := 8) (b := false) (t := 107) (c := !u59.2) rfl rfl rfl rfl hb80
                refine o_bin rfl rfl rfl ?_
                try dsimp only [putL, setL, evL, getL]
                refine HL_want ?_ ?_
                · exact wantT (j := 1) (b := true) (t := 100) (c := u12.2) rfl rfl rfl rfl hb78
                refine o_pickF rfl hb80 ?_
                try dsimp only [putL, setL, evL, getL]
                refine HL_cons rfl ?_
                refine o_pickT rfl hb78 ?_
                try dsimp only [putL, setL, evL, getL]
                refine HL_nil ?_
                exact hK73 _ _ ⟨decide (u12.1 > (IntKind.i64.wrap (u57.1 + u59.1))), H, rfl, hH.sel [] (by decide)⟩
          · replace H := iteF hb78 H
            refine HL_skip ?_ ?_
            · exact wantF (j := 1) (b := true) (t := 100) (c := u12.2) rfl rfl rfl rfl hb78
            try dsimp only [putL, setL, evL, getL]
            refine HL_skip ?_ ?_
            · exact wantF (j := 1) (b := true) (t := 100) (c := u12.2) rfl rfl rfl rfl hb78
            try dsimp only [putL, setL, evL, getL]
            refine HL_skip ?_ ?_
            · exact wantF (j := 1) (b := true) (t := 100) (c := u12.2) rfl rfl rfl rfl hb78
            try dsimp only [putL, setL, evL, getL]
            refine HL_skip ?_ ?_
            · exact wantU (j := 4) (b := false) (t := 103) rfl rfl rfl rfl
            try dsimp only [putL, setL, evL, getL]
            refine HL_skip ?_ ?_
            · exact wantU (j := 4) (b := false) (t := 103) rfl rfl rfl rfl
            try dsimp only [putL, setL, evL, getL]
            refine HL_skip ?_ ?_
            · exact wantF (j := 1) (b := true) (t := 100) (c := u12.2) rfl rfl rfl rfl hb78
            try dsimp only [putL, setL, evL, getL]
            refine HL_skip ?_ ?_
            · exact wantF (j := 1) (b := true) (t := 100) (c := u12.2) rfl rfl rfl rfl hb78
            try dsimp only [putL, setL, evL, getL]
            refine HL_skip ?_ ?_
            · exact wantU (j := 8) (b := false) (t := 107) rfl rfl rfl rfl
            try dsimp only [putL, setL, evL, getL]
            refine HL_skip ?_ ?_
            · exact wantU (j := 8) (b := false) (t := 107) rfl rfl rfl rfl
            try dsimp only [putL, setL, evL, getL]
            refine HL_skip ?_ ?_
            · exact wantU (j := 8) (b := false) (t := 107) rfl rfl rfl rfl
            try dsimp only [putL, setL, evL, getL]
            refine HL_skip ?_ ?_
            · exact wantU (j := 8) (b := false) (t := 107) rfl rfl rfl rfl
            try dsimp only [putL, setL, evL, getL]
            refine HL_skip ?_ ?_
            · exact wantU (j := 8) (b := false) (t := 107) rfl rfl rfl rfl
            try dsimp only [putL, setL, evL, getL]
            refine HL_skip ?_ ?_
            · exact wantF (j := 1) (b := true) (t := 100) (c := u12.2) rfl rfl rfl rfl hb78
            try dsimp only [putL, setL, evL, getL]
            refine HL_cons rfl ?_
            refine o_pickF rfl hb78 ?_
            try dsimp only [putL, setL, evL, getL]
            refine HL_nil ?_
            exact hK73 _ _ ⟨false, H, rfl, hH.sel [] (by decide)⟩
        · rintro l' s81 ⟨x77, H, hl, hH⟩
          generalize getL l' 99 = j99, getL l' 100 = j100, getL l' 101 = j101, getL l' 102 = j102, getL l' 103 = j103, getL l' 104 = j104, getL l' 105 = j105, getL l' 106 = j106, getL l' 107 = j107, getL l' 108 = j108, getL l' 109 = j109, getL l' 110 = j110, getL l' 111 = j111, getL l' 112 = j112, getL l' 113 = j113 at hl
          subst hl
          replace H := hG73 _ H
          try dsimp only at H
          rcases Bool.eq_false_or_eq_true x77 with hb82 | hb82
          · replace H := iteT hb82 H
            refine HT_true (congrArg Value.bool hb82) ?_
            refine HT_seq_k ?_
            intro K83 hK83
            refine HT_region ?_
            refine HL_cons rfl ?_
            refine o_assign ?_
            try dsimp only [putL, setL, evL, getL]
            refine HL_nil ?_
            refine hK83 _ _ ?_
            refine HT_ret ?_
            exact hQr _ _ [.bool false] ⟨rfl, trivial⟩ (retH (fun r => laws_FnDistance.post sb s F0 r _ _) (show some _ = some r from H) ⟨rfl, hH⟩)
          · replace H := iteF hb82 H
            refine HT_false (congrArg Value.bool hb82) ?_
            refine HT_skip ?_
            refine hK72 _ _ ?_
            refine HT_seq_k ?_
            intro K84 hK84
            refine HT_region ?_
            refine HL_cons rfl ?_
            refine o_move ?_
            try dsimp only [putL, setL, evL, getL]
            replace H := headE H
            obtain ⟨u85, hu85, H⟩ := H
            refine HL_cons rfl ?_
            refine o_call (args := #[.slice A1p p1.length c1p]) Try.func20 rfl rfl rfl (spec_DrawNearEnds.ok sb s81 no A1p c1p p1 HRp1 (Hp.own hH.bs) _ hu85) ?_
            rintro _ s85 ⟨A86, c86, A87, c87, rfl, hD⟩
            replace hH := hH.back0 hD (Up.refl _ _ _)
            clear hD
            dsimp only [addC, setC, rmC, selC, getC] at hH
            try dsimp only [putL, setL, evL, getL]
            refine HL_cons rfl ?_
            refine o_move ?_
            try dsimp only [putL, setL, evL, getL]
            refine HL_cons rfl ?_
            refine o_extract rfl rfl ?_
            try dsimp only [putL, setL, evL, getL]
            refine HL_cons rfl ?_
            refine o_extract rfl rfl ?_
            try dsimp only [putL, setL, evL, getL]
            refine HL_cons rfl ?_
            refine o_extract rfl rfl ?_
            try dsimp only [putL, setL, evL, getL]
            refine HL_cons rfl ?_
            refine o_assign ?_
            try dsimp only [putL, setL, evL, getL]
            refine HL_cons rfl ?_
            refine o_assign ?_
            try dsimp only [putL, setL, evL, getL]
            refine HL_cons rfl ?_
            refine o_assign ?_
            try dsimp only [putL, setL, evL, getL]
            refine HL_nil ?_
            refine hK84 _ _ ?_
            refine HT_seq_k ?_
            intro K88 hK88
            refine HT_region ?_
            refine HL_cons rfl ?_
            refine o_move ?_
            try dsimp only [putL, setL, evL, getL]
            refine HL_cons rfl ?_
            refine o_move ?_
            try dsimp only [putL, setL, evL, getL]
            refine HL_cons rfl ?_
            refine o_move ?_
            try dsimp only [putL, setL, evL, getL]
            replace H := headE H
            obtain ⟨u89, hu89, H⟩ := H
            refine HL_cons rfl ?_
            refine o_call (args := #[.slice A86 u85.1.length c86, .slice A87 u85.2.1.length c87, .int .i64 u85.2.2]) Try.func21 rfl rfl rfl (impl_NearEnds.ok s85 s85 no A86 c86 u85.1 A87 c87 u85.2.1 u85.2.2 (hH.rd 0 rfl) (hH.rd 1 rfl) (Hp.own (Bs.refl s85)) _ hu89) ?_
            rintro _ s89 ⟨A90, c90, rfl, hD⟩
            replace hH := hH.back0T hD
            clear hD
            dsimp only [addC, setC, rmC, selC, getC] at hH
            try dsimp only [putL, setL, evL, getL]
            refine HL_cons rfl ?_
            refine o_move ?_
            try dsimp only [putL, setL, evL, getL]
            refine HL_cons rfl ?_
            refine o_extract rfl rfl ?_
            try dsimp only [putL, setL, evL, getL]
            refine HL_cons rfl ?_
            refine o_extract rfl rfl ?_
            try dsimp only [putL, setL, evL, getL]
            refine HL_cons rfl ?_
            refine o_assign ?_
            try dsimp only [putL, setL, evL, getL]
            refine HL_cons rfl ?_
            refine o_assign ?_
            try dsimp only [putL, setL, evL, getL]
            refine HL_nil ?_
            refine hK88 _ _ ?_
            refine HT_seq_k ?_
            intro K91 hK91
            refine HT_region ?_
            refine HL_cons rfl ?_
            refine o_move ?_
            try dsimp only [putL, setL, evL, getL]
            refine HL_cons rfl ?_
            refine o_move ?_
            try dsimp only [putL, setL, evL, getL]
            refine HL_cons rfl ?_
            refine o_move ?_
            try dsimp only [putL, setL, evL, getL]
            replace H := headE H
            obtain ⟨u92, hu92, H⟩ := H
            refine HL_cons rfl ?_
            refine o_call (args := #[.slice A86 u85.1.length c86, .slice A87 u85.2.1.length c87, .int .i64 u85.2.2]) Try.func22 rfl rfl rfl (spec_NearEnds.ok s89 s89 no A86 c86 u85.1 A87 c87 u85.2.1 u85.2.2 (hH.rd 0 rfl) (hH.rd 1 rfl) (Hp.own (Bs.refl s89)) _ hu92) ?_
            rintro _ s92 ⟨A93, c93, rfl, hD⟩
            replace hH := hH.back0T hD
            clear hD
            dsimp only [addC, setC, rmC, selC, getC] at hH
            try dsimp only [putL, setL, evL, getL]
            refine HL_cons rfl ?_
            refine o_move ?_
            try dsimp only [putL, setL, evL, getL]
            refine HL_cons rfl ?_
            refine o_extract rfl rfl ?_
            try dsimp only [putL, setL, evL, getL]
            refine HL_cons rfl ?_
            refine o_extract rfl rfl ?_
            try dsimp only [putL, setL, evL, getL]
            refine HL_cons rfl ?_
            refine o_assign ?_
            try dsimp only [putL, setL, evL, getL]
            refine HL_cons rfl ?_
            refine o_assign ?_
            try dsimp only [putL, setL, evL, getL]
            refine HL_nil ?_
            refine hK91 _ _ ?_
            refine HT_seq_k ?_
            intro K104 hK104
            refine joinH H fun G105 hG105 H => ?_
            refine HT_joinK (fun l' s' => ∃ (x108 : Bool), G105 x108 = some r ∧ l' = [.slice A0p p0.length c0p, .slice A1p p1.length c1p, undef, undef, .bool false, .slice A9 u8.1.length c9, .slice A10 u8.2.length c10, .int .i64 u12.1, .bool u12.2, .int .i64 u14.1, .bool u14.2, .int .i64 u16.1, .bool u16.2, .slice A55 u54.length c55, .int .i64 u57.1, .bool u57.2, .int .i64 u59.1, .bool u59.2, .slice A86 u85.1.length c86, .slice A87 u85.2.1.length c87, .int .i64 u85.2.2, .slice A90 u89.1.length c90, .bool u89.2, .slice A93 u92.1.length c93, .bool u92.2, undef, undef, undef, undef, undef, .slice A0p p0.length c0p, .slice A1p p1.length c1p, .bool u4, .tuple #[.slice A9 u8.1.length c9, .slice A10 u8.2.length c10], .slice A0p p0.length c0p, .tuple #[.slice A9 u8.1.length c9, .slice A10 u8.2.length c10], .slice A9 u8.1.length c9, .slice A10 u8.2.length c10, .tuple #[.int .i64 u12.1, .bool u12.2], .slice A9 u8.1.length c9, .slice A10 u8.2.length c10, .tuple #[.int .i64 u12.1, .bool u12.2], .int .i64 u12.1, .bool u12.2, .tuple #[.int .i64 u14.1, .bool u14.2], .slice A9 u8.1.length c9, .slice A10 u8.2.length c10, .tuple #[.int .i64 u14.1, .bool u14.2], .int .i64 u14.1, .bool u14.2, .tuple #[.int .i64 u16.1, .bool u16.2], .slice A10 u8.2.length c10, .slice A9 u8.1.length c9, .tuple #[.int .i64 u16.1, .bool u16.2], .int .i64 u16.1, .bool u16.2, j56, j57, j58, j59, j60, j61, j62, j63, j64, j65, j66, j67, j68, j69, j70, j71, j72, j73, j74, j75, j76, j77, j78, j79, j80, j81, j82, j83, .bool x43, .slice A1p p1.length c1p, .slice A55 u54.length c55, .tuple #[.int .i64 u57.1, .bool u57.2], .slice A9 u8.1.length c9, .slice A55 u54.length c55, .tuple #[.int .i64 u57.1, .bool u57.2], .int .i64 u57.1, .bool u57.2, .tuple #[.int .i64 u59.1, .bool u59.2], .slice A55 u54.length c55, .slice A10 u8.2.length c10, .tuple #[.int .i64 u59.1, .bool u59.2], .int .i64 u59.1, .bool u59.2, j99, j100, j101, j102, j103, j104, j105, j106, j107, j108, j109, j110, j111, j112, j113, .bool x77, .tuple #[.slice A86 u85.1.length c86, .slice A87 u85.2.1.length c87, .int .i64 u85.2.2], .slice A1p p1.length c1p, .tuple #[.slice A86 u85.1.length c86, .slice A87 u85.2.1.length c87, .int .i64 u85.2.2], .slice A86 u85.1.length c86, .slice A87 u85.2.1.length c87, .int .i64 u85.2.2, .tuple #[.slice A90 u89.1.length c90, .bool u89.2], .slice A86 u85.1.length c86, .slice A87 u85.2.1.length c87, .int .i64 u85.2.2, .tuple #[.slice A90 u89.1.length c90, .bool u89.2], .slice A90 u89.1.length c90, .bool u89.2, .tuple #[.slice A93 u92.1.length c93, .bool u92.2], .slice A86 u85.1.length c86, .slice A87 u85.2.1.length c87, .int .i64 u85.2.2, .tuple #[.slice A93 u92.1.length c93, .bool u92.2], .slice A93 u92.1.length c93, .bool u92.2, getL l' 135, getL l' 136, getL l' 137, getL l' 138, getL l' 139, getL l' 140, getL l' 141, getL l' 142, .bool x108, undef, undef, undef, undef, undef, undef, undef, undef, undef, undef, undef, undef, undef, undef, undef, undef, undef, undef, undef, undef, undef, undef, undef, undef, undef, undef, undef, undef, undef, undef, undef, undef, undef, undef, undef] ∧ Hp sb s F0 s' [Ck.ol OI 3 A86 c86 u85.1, Ck.ol OI 3 A87 c87 u85.2.1, Ck.ol OI 3 A90 c90 u89.1]) ?_ ?_
            · intro K105 hK105
              refine HT_region ?_
              refine HL_cons rfl ?_
              refine o_move ?_
              try dsimp only [putL, setL, evL, getL]
              refine HL_cons rfl ?_
              refine o_move ?_
              try dsimp only [putL, setL, evL, getL]
              refine HL_cons rfl ?_
              refine o_neb rfl rfl Try.underlying4 ?_
              try dsimp only [putL, setL, evL, getL]
              refine HL_cons rfl ?_
              refine o_move ?_
              try dsimp only [putL, setL, evL, getL]
              rcases Bool.eq_false_or_eq_true (u89.2 != u92.2) with hb109 | hb109
              · replace H := iteT hb109 H
                refine HL_skip ?_ ?_
                · exact wantF (j := 3) (b := false) (t := 138) (c := u89.2 != u92.2) rfl rfl rfl rfl hb109
                try dsimp only [putL, setL, evL, getL]
                refine HL_skip ?_ ?_
                · exact wantF (j := 3) (b := false) (t := 138) (c := u89.2 != u92.2) rfl rfl rfl rfl hb109
                try dsimp only [putL, setL, evL, getL]
                refine HL_skip ?_ ?_
                · exact wantF (j := 3) (b := false) (t := 138) (c := u89.2 != u92.2) rfl rfl rfl rfl hb109
                try dsimp only [putL, setL, evL, getL]
                refine HL_skip ?_ ?_
                · exact wantF (j := 3) (b := false) (t := 138) (c := u89.2 != u92.2) rfl rfl rfl rfl hb109
                try dsimp only [putL, setL, evL, getL]
                refine HL_cons rfl ?_
                refine o_pickT rfl hb109 ?_
                try dsimp only [putL, setL, evL, getL]
                refine HL_nil ?_
                exact hK105 _ _ ⟨true, H, rfl, hH.sel [0, 1, 2] (by decide)⟩
              · replace H := iteF hb109 H
                refine HL_want ?_ ?_
                · exact wantT (j := 3) (b := false) (t := 138) (c := u89.2 != u92.2) rfl rfl rfl rfl hb109
                refine o_move ?_
                try dsimp only [putL, setL, evL, getL]
                refine HL_want ?_ ?_
                · exact wantT (j := 3) (b := false) (t := 138) (c := u89.2 != u92.2) rfl rfl rfl rfl hb109
                refine o_move ?_
                try dsimp only [putL, setL, evL, getL]
                replace H := headE H
                obtain ⟨u110, hu110, H⟩ := H
                refine HL_want ?_ ?_
                · exact wantT (j := 3) (b := false) (t := 138) (c := u89.2 != u92.2) rfl rfl rfl rfl hb109
                refine o_call (args := #[.slice A90 u89.1.length c90, .slice A93 u92.1.length c93]) Try.func18 rfl rfl rfl (laws_sameInts.ok s92 s92 no A90 c90 u89.1 A93 c93 u92.1 (hH.rd 2 rfl) (hH.rd 3 rfl) (Hp.own (Bs.refl s92)) _ hu110) ?_
                rintro _ s110 ⟨rfl, hD⟩
                replace hH := hH.back0T hD
                clear hD
                dsimp only [addC, setC, rmC, selC, getC] at hH
                try dsimp only [putL, setL, evL, getL]
                refine HL_want ?_ ?_
                · exact wantT (j := 3) (b := false) (t := 138) (c := u89.2 != u92.2) rfl rfl rfl rfl hb109
                refine o_not rfl ?_
                try dsimp only [putL, setL, evL, getL]
                refine HL_cons rfl ?_
                refine o_pickF rfl hb109 ?_
                try dsimp only [putL, setL, evL, getL]
                refine HL_nil ?_
                exact hK105 _ _ ⟨!u110, H, rfl, hH.sel [0, 1, 2] (by decide)⟩
            · rintro l' s111 ⟨x108, H, hl, hH⟩
              generalize getL l' 135 = j135, getL l' 136 = j136, getL l' 137 = j137, getL l' 138 = j138, getL l' 139 = j139, getL l' 140 = j140, getL l' 141 = j141, getL l' 142 = j142 at hl
              subst hl
              replace H := hG105 _ H
              try dsimp only at H
              rcases Bool.eq_false_or_eq_true x108 with hb112 | hb112
              · replace H := iteT hb112 H
                refine HT_true (congrArg Value.bool hb112) ?_
                refine HT_seq_k ?_
                intro K113 hK113
                refine HT_region ?_
                refine HL_cons rfl ?_
                refine o_assign ?_
                try dsimp only [putL, setL, evL, getL]
                refine HL_nil ?_
                refine hK113 _ _ ?_
                refine HT_ret ?_
                exact hQr _ _ [.bool false] ⟨rfl, trivial⟩ (retH (fun r => laws_FnDistance.post sb s F0 r _ _) (show some _ = some r from H) ⟨rfl, hH.sel [] (by decide)⟩)
              · replace H := iteF hb112 H
                refine HT_false (congrArg Value.bool hb112) ?_
                refine HT_skip ?_
                refine hK104 _ _ ?_
                refine joinH H fun G114 hG114 H => ?_
                refine HT_joinK (fun l' s' => G114 (.go ()) = some r ∧ l' = [.slice A0p p0.length c0p, .slice A1p p1.length c1p, undef, undef, getL l' 4, .slice A9 u8.1.length c9, .slice A10 u8.2.length c10, .int .i64 u12.1, .bool u12.2, .int .i64 u14.1, .bool u14.2, .int .i64 u16.1, .bool u16.2, .slice A55 u54.length c55, .int .i64 u57.1, .bool u57.2, .int .i64 u59.1, .bool u59.2, .slice A86 u85.1.length c86, .slice A87 u85.2.1.length c87, .int .i64 u85.2.2, .slice A90 u89.1.length c90, .bool u89.2, .slice A93 u92.1.length c93, .bool u92.2, getL l' 25, getL l' 26, getL l' 27, getL l' 28, getL l' 29, .slice A0p p0.length c0p, .slice A1p p1.length c1p, .bool u4, .tuple #[.slice A9 u8.1.length c9, .slice A10 u8.2.length c10], .slice A0p p0.length c0p, .tuple #[.slice A9 u8.1.length c9, .slice A10 u8.2.length c10], .slice A9 u8.1.length c9, .slice A10 u8.2.length c10, .tuple #[.int .i64 u12.1, .bool u12.2], .slice A9 u8.1.length c9, .slice A10 u8.2.length c10, .tuple #[.int .i64 u12.1, .bool u12.2], .int .i64 u12.1, .bool u12.2, .tuple #[.int .i64 u14.1, .bool u14.2], .slice A9 u8.1.length c9, .slice A10 u8.2.length c10, .tuple #[.int .i64 u14.1, .bool u14.2], .int .i64 u14.1, .bool u14.2, .tuple #[.int .i64 u16.1, .bool u16.2], .slice A10 u8.2.length c10, .slice A9 u8.1.length c9, .tuple #[.int .i64 u16.1, .bool u16.2], .int .i64 u16.1, .bool u16.2, j56, j57, j58, j59, j60, j61, j62, j63, j64, j65, j66, j67, j68, j69, j70, j71, j72, j73, j74, j75, j76, j77, j78, j79, j80, j81, j82, j83, .bool x43, .slice A1p p1.length c1p, .slice A55 u54.length c55, .tuple #[.int .i64 u57.1, .bool u57.2], .slice A9 u8.1.length c9, .slice A55 u54.length c55, .tuple #[.int .i64 u57.1, .bool u57.2], .int .i64 u57.1, .bool u57.2, .tuple #[.int .i64 u59.1, .bool u59.2], .slice A55 u54.length c55, .slice A10 u8.2.length c10, .tuple #[.int .i64 u59.1, .bool u59.2], .int .i64 u59.1, .bool u59.2, j99, j100, j101, j102, j103, j104, j105, j106, j107, j108, j109, j110, j111, j112, j113, .bool x77, .tuple #[.slice A86 u85.1.length c86, .slice A87 u85.2.1.length c87, .int .i64 u85.2.2], .slice A1p p1.length c1p, .tuple #[.slice A86 u85.1.length c86, .slice A87 u85.2.1.length c87, .int .i64 u85.2.2], .slice A86 u85.1.length c86, .slice A87 u85.2.1.length c87, .int .i64 u85.2.2, .tuple #[.slice A90 u89.1.length c90, .bool u89.2], .slice A86 u85.1.length c86, .slice A87 u85.2.1.length c87, .int .i64 u85.2.2, .tuple #[.slice A90 u89.1.length c90, .bool u89.2], .slice A90 u89.1.length c90, .bool u89.2, .tuple #[.slice A93 u92.1.length c93, .bool u92.2], .slice A86 u85.1.length c86, .slice A87 u85.2.1.length c87, .int .i64 u85.2.2, .tuple #[.slice A93 u92.1.length c93, .bool u92.2], .slice A93 u92.1.length c93, .bool u92.2, j135, j136, j137, j138, j139, j140, j141, j142, .bool x108, getL l' 144, getL l' 145, getL l' 146, getL l' 147, getL l' 148, getL l' 149, getL l' 150, getL l' 151, getL l' 152, getL l' 153, getL l' 154, getL l' 155, getL l' 156, getL l' 157, getL l' 158, getL l' 159, getL l' 160, getL l' 161, getL l' 162, getL l' 163, getL l' 164, getL l' 165, getL l' 166, getL l' 167, getL l' 168, getL l' 169, getL l' 170, getL l' 171, getL l' 172, getL l' 173, getL l' 174, getL l' 175, getL l' 176, getL l' 177, getL l' 178] ∧ Hp sb s F0 s' []) ?_ ?_
                · intro K114 hK114
                  refine HT_seq_k ?_
                  intro K808 hK808
                  refine HT_region ?_
                  refine HL_cons rfl ?_
                  refine o_move ?_
                  try dsimp only [putL, setL, evL, getL]
                  refine HL_nil ?_
                  refine hK808 _ _ ?_
                  rcases Bool.eq_false_or_eq_true u89.2 with hb809 | hb809
                  · replace H := iteT hb809 H
                    refine HT_true (congrArg Value.bool hb809) ?_
                    refine HT_seq_k ?_
                    intro K810 hK810
                    refine HT_region ?_
                    refine HL_cons rfl ?_
                    refine o_assign ?_
                    try dsimp only [putL, setL, evL, getL]
                    refine HL_nil ?_
                    refine hK810 _ _ ?_
                    refine HT_block ?_
                    refine HT_loopK (fun kf l' s' => ∃ (x1040 : Int), (laws_FnDistance.l1 u85 u89 kf x1040).bind G114 = some r ∧ l' = [.slice A0p p0.length c0p, .slice A1p p1.length c1p, undef, undef, getL l' 4, .slice A9 u8.1.length c9, .slice A10 u8.2.length c10, .int .i64 u12.1, .bool u12.2, .int .i64 u14.1, .bool u14.2, .int .i64 u16.1, .bool u16.2, .slice A55 u54.length c55, .int .i64 u57.1, .bool u57.2, .int .i64 u59.1, .bool u59.2, .slice A86 u85.1.length c86, .slice A87 u85.2.1.length c87, .int .i64 u85.2.2, .slice A90 u89.1.length c90, .bool u89.2, .slice A93 u92.1.length c93, .bool u92.2, .int .i64 x1040, getL l' 26, getL l' 27, getL l' 28, getL l' 29, .slice A0p p0.length c0p, .slice A1p p1.length c1p, .bool u4, .tuple #[.slice A9 u8.1.length c9, .slice A10 u8.2.length c10], .slice A0p p0.length c0p, .tuple #[.slice A9 u8.1.length c9, .slice A10 u8.2.length c10], .slice A9 u8.1.length c9, .slice A10 u8.2.length c10, .tuple #[.int .i64 u12.1, .bool u12.2], .slice A9 u8.1.length c9, .slice A10 u8.2.length c10, .tuple #[.int .i64 u12.1, .bool u12.2], .int .i64 u12.1, .bool u12.2, .tuple #[.int .i64 u14.1, .bool u14.2], .slice A9 u8.1.length c9, .slice A10 u8.2.length c10, .tuple #[.int .i64 u14.1, .bool u14.2], .int .i64 u14.1, .bool u14.2, .tuple #[.int .i64 u16.1, .bool u16.2], .slice A10 u8.2.length c10, .slice A9 u8.1.length c9, .tuple #[.int .i64 u16.1, .bool u16.2], .int .i64 u16.1, .bool u16.2, j56, j57, j58, j59, j60, j61, j62, j63, j64, j65, j66, j67, j68, j69, j70, j71, j72, j73, j74, j75, j76, j77, j78, j79, j80, j81, j82, j83, .bool x43, .slice A1p p1.length c1p, .slice A55 u54.length c55, .tuple #[.int .i64 u57.1, .bool u57.2], .slice A9 u8.1.length c9, .slice A55 u54.length c55, .tuple #[.int .i64 u57.1, .bool u57.2], .int .i64 u57.1, .bool u57.2, .tuple #[.int .i64 u59.1, .bool u59.2], .slice A55 u54.length c55, .slice A10 u8.2.length c10, .tuple #[.int .i64 u59.1, .bool u59.2], .int .i64 u59.1, .bool u59.2, j99, j100, j101, j102, j103, j104, j105, j106, j107, j108, j109, j110, j111, j112, j113, .bool x77, .tuple #[.slice A86 u85.1.length c86, .slice A87 u85.2.1.length c87, .int .i64 u85.2.2], .slice A1p p1.length c1p, .tuple #[.slice A86 u85.1.length c86, .slice A87 u85.2.1.length c87, .int .i64 u85.2.2], .slice A86 u85.1.length c86, .slice A87 u85.2.1.length c87, .int .i64 u85.2.2, .tuple #[.slice A90 u89.1.length c90, .bool u89.2], .slice A86 u85.1.length c86, .slice A87 u85.2.1.length c87, .int .i64 u85.2.2, .tuple #[.slice A90 u89.1.length c90, .bool u89.2], .slice A90 u89.1.length c90, .bool u89.2, .tuple #[.slice A93 u92.1.length c93, .bool u92.2], .slice A86 u85.1.length c86, .slice A87 u85.2.1.length c87, .int .i64 u85.2.2, .tuple #[.slice A93 u92.1.length c93, .bool u92.2], .slice A93 u92.1.length c93, .bool u92.2, j135, j136, j137, j138, j139, j140, j141, j142, .bool x108, .bool u89.2, getL l' 145, getL l' 146, getL l' 147, getL l' 148, getL l' 149, getL l' 150, getL l' 151, getL l' 152, getL l' 153, getL l' 154, getL l' 155, getL l' 156, getL l' 157, getL l' 158, getL l' 159, getL l' 160, getL l' 161, getL l' 162, getL l' 163, getL l' 164, getL l' 165, getL l' 166, getL l' 167, getL l' 168, getL l' 169, getL l' 170, getL l' 171, getL l' 172, getL l' 173, getL l' 174, getL l' 175, getL l' 176, getL l' 177, getL l' 178] ∧ Hp sb s F0 s' [Ck.ol OI 3 A86 c86 u85.1, Ck.ol OI 3 A87 c87 u85.2.1, Ck.ol OI 3 A90 c90 u89.1]) ((((u85.2.1.length : Int)) - (0)).toNat + 2) ⟨0, H, rfl, hH⟩ ?_
                    rintro kf l' s1271 ⟨x1040, H, hl, hH⟩ K1271 hK1271
                    generalize getL l' 4 = j4, getL l' 26 = j26, getL l' 27 = j27, getL l' 28 = j28, getL l' 29 = j29, getL l' 145 = j145, getL l' 146 = j146, getL l' 147 = j147, getL l' 148 = j148, getL l' 149 = j149, getL l' 150 = j150, getL l' 151 = j151, getL l' 152 = j152, getL l' 153 = j153, getL l' 154 = j154, getL l' 155 = j155, getL l' 156 = j156, getL l' 157 = j157, getL l' 158 = j158, getL l' 159 = j159, getL l' 160 = j160, getL l' 161 = j161, getL l' 162 = j162, getL l' 163 = j163, getL l' 164 = j164, getL l' 165 = j165, getL l' 166 = j166, getL l' 167 = j167, getL l' 168 = j168, getL l' 169 = j169, getL l' 170 = j170, getL l' 171 = j171, getL l' 172 = j172, getL l' 173 = j173, getL l' 174 = j174, getL l' 175 = j175, getL l' 176 = j176, getL l' 177 = j177, getL l' 178 = j178 at hl
                    subst hl
                    cases kf with
                    | zero => simp [laws_FnDistance.l1] at H
                    | succ kf =>
                      rw [laws_FnDistance.l1] at H
                      refine HT_seq_k ?_
                      intro K1272 hK1272
                      refine HT_seq_k ?_
                      intro K1273 hK1273
                      refine HT_region ?_
                      refine HL_cons rfl ?_
                      refine o_move ?_
                      try dsimp only [putL, setL, evL, getL]
                      refine HL_cons rfl ?_
                      refine o_move ?_
                      try dsimp only [putL, setL, evL, getL]
                      refine HL_cons rfl ?_
                      refine o_len rfl Try.underlying24 ?_
                      try dsimp only [putL, setL, evL, getL]
                      refine HL_cons rfl ?_
                      refine o_bin rfl rfl rfl ?_
                      try dsimp only [putL, setL, evL, getL]
                      refine HL_nil ?_
                      refine hK1273 _ _ ?_
                      rcases Bool.eq_false_or_eq_true (decide (x1040 ≤ (u85.2.1.length : Int))) with hb1274 | hb1274
                      · replace H := iteT hb1274 H
                        refine HT_true (congrArg Value.bool hb1274) ?_
                        refine HT_skip ?_
                        refine hK1272 _ _ ?_
                        refine joinH H fun G1275 hG1275 H => ?_
                        refine HT_joinK (fun l' s' => G1275 (.go ()) = some r ∧ l' = [.slice A0p p0.length c0p, .slice A1p p1.length c1p, undef, undef, getL l' 4, .slice A9 u8.1.length c9, .slice A10 u8.2.length c10, .int .i64 u12.1, .bool u12.2, .int .i64 u14.1, .bool u14.2, .int .i64 u16.1, .bool u16.2, .slice A55 u54.length c55, .int .i64 u57.1, .bool u57.2, .int .i64 u59.1, .bool u59.2, .slice A86 u85.1.length c86, .slice A87 u85.2.1.length c87, .int .i64 u85.2.2, .slice A90 u89.1.length c90, .bool u89.2, .slice A93 u92.1.length c93, .bool u92.2, .int .i64 x1040, getL l' 26, getL l' 27, getL l' 28, getL l' 29, .slice A0p p0.length c0p, .slice A1p p1.length c1p, .bool u4, .tuple #[.slice A9 u8.1.length c9, .slice A10 u8.2.length c10], .slice A0p p0.length c0p, .tuple #[.slice A9 u8.1.length c9, .slice A10 u8.2.length c10], .slice A9 u8.1.length c9, .slice A10 u8.2.length c10, .tuple #[.int .i64 u12.1, .bool u12.2], .slice A9 u8.1.length c9, .slice A10 u8.2.length c10, .tuple #[.int .i64 u12.1, .bool u12.2], .int .i64 u12.1, .bool u12.2, .tuple #[.int .i64 u14.1, .bool u14.2], .slice A9 u8.1.length c9, .slice A10 u8.2.length c10, .tuple #[.int .i64 u14.1, .bool u14.2], .int .i64 u14.1, .bool u14.2, .tuple #[.int .i64 u16.1, .bool u16.2], .slice A10 u8.2.length c10, .slice A9 u8.1.length c9, .tuple #[.int .i64 u16.1, .bool u16.2], .int .i64 u16.1, .bool u16.2, j56, j57, j58, j59, j60, j61, j62, j63, j64, j65, j66, j67, j68, j69, j70, j71, j72, j73, j74, j75, j76, j77, j78, j79, j80, j81, j82, j83, .bool x43, .slice A1p p1.length c1p, .slice A55 u54.length c55, .tuple #[.int .i64 u57.1, .bool u57.2], .slice A9 u8.1.length c9, .slice A55 u54.length c55, .tuple #[.int .i64 u57.1, .bool u57.2], .int .i64 u57.1, .bool u57.2, .tuple #[.int .i64 u59.1, .bool u59.2], .slice A55 u54.length c55, .slice A10 u8.2.length c10, .tuple #[.int .i64 u59.1, .bool u59.2], .int .i64 u59.1, .bool u59.2, j99, j100, j101, j102, j103, j104, j105, j106, j107, j108, j109, j110, j111, j112, j113, .bool x77, .tuple #[.slice A86 u85.1.length c86, .slice A87 u85.2.1.length c87, .int .i64 u85.2.2], .slice A1p p1.length c1p, .tuple #[.slice A86 u85.1.length c86, .slice A87 u85.2.1.length c87, .int .i64 u85.2.2], .slice A86 u85.1.length c86, .slice A87 u85.2.1.length c87, .int .i64 u85.2.2, .tuple #[.slice A90 u89.1.length c90, .bool u89.2], .slice A86 u85.1.length c86, .slice A87 u85.2.1.length c87, .int .i64 u85.2.2, .tuple #[.slice A90 u89.1.length c90, .bool u89.2], .slice A90 u89.1.length c90, .bool u89.2, .tuple #[.slice A93 u92.1.length c93, .bool u92.2], .slice A86 u85.1.length c86, .slice A87 u85.2.1.length c87, .int .i64 u85.2.2, .tuple #[.slice A93 u92.1.length c93, .bool u92.2], .slice A93 u92.1.length c93, .bool u92.2, j135, j136, j137, j138, j139, j140, j141, j142, .bool x108, .bool u89.2, .int .i64 x1040, .slice A87 u85.2.1.length c87, .int .i64 (u85.2.1.length : Int), .bool (decide (x1040 ≤ (u85.2.1.length : Int))), j149, j150, getL l' 151, getL l' 152, getL l' 153, getL l' 154, getL l' 155, getL l' 156, getL l' 157, getL l' 158, getL l' 159, getL l' 160, getL l' 161, getL l' 162, getL l' 163, getL l' 164, getL l' 165, getL l' 166, getL l' 167, getL l' 168, getL l' 169, getL l' 170, getL l' 171, getL l' 172, getL l' 173, getL l' 174, getL l' 175, getL l' 176, getL l' 177, getL l' 178] ∧ Hp sb s F0 s' [Ck.ol OI 3 A86 c86 u85.1, Ck.ol OI 3 A87 c87 u85.2.1, Ck.ol OI 3 A90 c90 u89.1]) ?_ ?_
                        · intro K1275 hK1275
                          refine HT_block ?_
                          refine HT_seq_k ?_
                          intro K1388 hK1388
                          refine HT_region ?_
                          refine HL_cons rfl ?_
                          refine o_assign ?_
                          try dsimp only [putL, setL, evL, getL]
                          refine HL_nil ?_
                          refine hK1388 _ _ ?_
                          refine HT_seq_k ?_
                          intro K1389 hK1389
                          refine HT_seq_k ?_
                          intro K1390 hK1390
                          refine HT_region ?_
                          refine HL_cons rfl ?_
                          refine o_assign ?_
                          try dsimp only [putL, setL, evL, getL]
                          refine HL_nil ?_
                          refine hK1390 _ _ ?_
                          refine joinH H fun G1391 hG1391 H => ?_
                          refine HT_toK (fun l' s' => ∃ (x1443 : Bool), G1391 x1443 = some r ∧ l' = [.slice A0p p0.length c0p, .slice A1p p1.length c1p, undef, undef, j4, .slice A9 u8.1.length c9, .slice A10 u8.2.length c10, .int .i64 u12.1, .bool u12.2, .int .i64 u14.1, .bool u14.2, .int .i64 u16.1, .bool u16.2, .slice A55 u54.length c55, .int .i64 u57.1, .bool u57.2, .int .i64 u59.1, .bool u59.2, .slice A86 u85.1.length c86, .slice A87 u85.2.1.length c87, .int .i64 u85.2.2, .slice A90 u89.1.length c90, .bool u89.2, .slice A93 u92.1.length c93, .bool u92.2, .int .i64 x1040, .bool x1443, getL l' 27, getL l' 28, getL l' 29, .slice A0p p0.length c0p, .slice A1p p1.length c1p, .bool u4, .tuple #[.slice A9 u8.1.length c9, .slice A10 u8.2.length c10], .slice A0p p0.length c0p, .tuple #[.slice A9 u8.1.length c9, .slice A10 u8.2.length c10], .slice A9 u8.1.length c9, .slice A10 u8.2.length c10, .tuple #[.int .i64 u12.1, .bool u12.2], .slice A9 u8.1.length c9, .slice A10 u8.2.length c10, .tuple #[.int .i64 u12.1, .bool u12.2], .int .i64 u12.1, .bool u12.2, .tuple #[.int .i64 u14.1, .bool u14.2], .slice A9 u8.1.length c9, .slice A10 u8.2.length c10, .tuple #[.int .i64 u14.1, .bool u14.2], .int .i64 u14.1, .bool u14.2, .tuple #[.int .i64 u16.1, .bool u16.2], .slice A10 u8.2.length c10, .slice A9 u8.1.length c9, .tuple #[.int .i64 u16.1, .bool u16.2], .int .i64 u16.1, .bool u16.2, j56, j57, j58, j59, j60, j61, j62, j63, j64, j65, j66, j67, j68, j69, j70, j71, j72, j73, j74, j75, j76, j77, j78, j79, j80, j81, j82, j83, .bool x43, .slice A1p p1.length c1p, .slice A55 u54.length c55, .tuple #[.int .i64 u57.1, .bool u57.2], .slice A9 u8.1.length c9, .slice A55 u54.length c55, .tuple #[.int .i64 u57.1, .bool u57.2], .int .i64 u57.1, .bool u57.2, .tuple #[.int .i64 u59.1, .bool u59.2], .slice A55 u54.length c55, .slice A10 u8.2.length c10, .tuple #[.int .i64 u59.1, .bool u59.2], .int .i64 u59.1, .bool u59.2, j99, j100, j101, j102, j103, j104, j105, j106, j107, j108, j109, j110, j111, j112, j113, .bool x77, .tuple #[.slice A86 u85.1.length c86, .slice A87 u85.2.1.length c87, .int .i64 u85.2.2], .slice A1p p1.length c1p, .tuple #[.slice A86 u85.1.length c86, .slice A87 u85.2.1.length c87, .int .i64 u85.2.2], .slice A86 u85.1.length c86, .slice A87 u85.2.1.length c87, .int .i64 u85.2.2, .tuple #[.slice A90 u89.1.length c90, .bool u89.2], .slice A86 u85.1.length c86, .slice A87 u85.2.1.length c87, .int .i64 u85.2.2, .tuple #[.slice A90 u89.1.length c90, .bool u89.2], .slice A90 u89.1.length c90, .bool u89.2, .tuple #[.slice A93 u92.1.length c93, .bool u92.2], .slice A86 u85.1.length c86, .slice A87 u85.2.1.length c87, .int .i64 u85.2.2, .tuple #[.slice A93 u92.1.length c93, .bool u92.2], .slice A93 u92.1.length c93, .bool u92.2, j135, j136, j137, j138, j139, j140, j141, j142, .bool x108, .bool u89.2, .int .i64 x1040, .slice A87 u85.2.1.length c87, .int .i64 (u85.2.1.length : Int), .bool (decide (x1040 ≤ (u85.2.1.length : Int))), j149, j150, getL l' 151, getL l' 152, getL l' 153, getL l' 154, getL l' 155, getL l' 156, getL l' 157, getL l' 158, getL l' 159, getL l' 160, getL l' 161, getL l' 162, getL l' 163, getL l' 164, getL l' 165, getL l' 166, getL l' 167, getL l' 168, getL l' 169, getL l' 170, getL l' 171, getL l' 172, getL l' 173, j174, j175, j176, j177, j178] ∧ Hp sb s F0 s' [Ck.ol OI 3 A86 c86 u85.1, Ck.ol OI 3 A87 c87 u85.2.1, Ck.ol OI 3 A90 c90 u89.1]) ?_ ?_
                          · intro K1391 hK1391
                            refine HT_block ?_
                            refine HT_loopK (fun kf l' s' => ∃ (x1458 : Bool) (x1459 : Int), (laws_FnDistance.l2 u85 x1040 kf x1458 x1459).bind G1391 = some r ∧ l' = [.slice A0p p0.length c0p, .slice A1p p1.length c1p, undef, undef, j4, .slice A9 u8.1.length c9, .slice A10 u8.2.length c10, .int .i64 u12.1, .bool u12.2, .int .i64 u14.1, .bool u14.2, .int .i64 u16.1, .bool u16.2, .slice A55 u54.length c55, .int .i64 u57.1, .bool u57.2, .int .i64 u59.1, .bool u59.2, .slice A86 u85.1.length c86, .slice A87 u85.2.1.length c87, .int .i64 u85.2.2, .slice A90 u89.1.length c90, .bool u89.2, .slice A93 u92.1.length c93, .bool u92.2, .int .i64 x1040, .bool x1458, .int .i64 x1459, getL l' 28, getL l' 29, .slice A0p p0.length c0p, .slice A1p p1.length c1p, .bool u4, .tuple #[.slice A9 u8.1.length c9, .slice A10 u8.2.length c10], .slice A0p p0.length c0p, .tuple #[.slice A9 u8.1.length c9, .slice A10 u8.2.length c10], .slice A9 u8.1.length c9, .slice A10 u8.2.length c10, .tuple #[.int .i64 u12.1, .bool u12.2], .slice A9 u8.1.length c9, .slice A10 u8.2.length c10, .tuple #[.int .i64 u12.1, .bool u12.2], .int .i64 u12.1, .bool u12.2, .tuple #[.int .i64 u14.1, .bool u14.2], .slice A9 u8.1.length c9, .slice A10 u8.2.length c10, .tuple #[.int .i64 u14.1, .bool u14.2], .int .i64 u14.1, .bool u14.2, .tuple #[.int .i64 u16.1, .bool u16.2], .slice A10 u8.2.length c10, .slice A9 u8.1.length c9, .tuple #[.int .i64 u16.1, .bool u16.2], .int .i64 u16.1, .bool u16.2, j56, j57, j58, j59, j60, j61, j62, j63, j64, j65, j66, j67, j68, j69, j70, j71, j72, j73, j74, j75, j76, j77, j78, j79, j80, j81, j82, j83, .bool x43, .slice A1p p1.length c1p, .slice A55 u54.length c55, .tuple #[.int .i64 u57.1, .bool u57.2], .slice A9 u8.1.length c9, .slice A55 u54.length c55, .tuple #[.int .i64 u57.1, .bool u57.2], .int .i64 u57.1, .bool u57.2, .tuple #[.int .i64 u59.1, .bool u59.2], .slice A55 u54.length c55, .slice A10 u8.2.length c10, .tuple #[.int .i64 u59.1, .bool u59.2], .int .i64 u59.1, .bool u59.2, j99, j100, j101, j102, j103, j104, j105, j106, j107, j108, j109, j110, j111, j112, j113, .bool x77, .tuple #[.slice A86 u85.1.length c86, .slice A87 u85.2.1.length c87, .int .i64 u85.2.2], .slice A1p p1.length c1p, .tuple #[.slice A86 u85.1.length c86, .slice A87 u85.2.1.length c87, .int .i64 u85.2.2], .slice A86 u85.1.length c86, .slice A87 u85.2.1.length c87, .int .i64 u85.2.2, .tuple #[.slice A90 u89.1.length c90, .bool u89.2], .slice A86 u85.1.length c86, .slice A87 u85.2.1.length c87, .int .i64 u85.2.2, .tuple #[.slice A90 u89.1.length c90, .bool u89.2], .slice A90 u89.1.length c90, .bool u89.2, .tuple #[.slice A93 u92.1.length c93, .bool u92.2], .slice A86 u85.1.length c86, .slice A87 u85.2.1.length c87, .int .i64 u85.2.2, .tuple #[.slice A93 u92.1.length c93, .bool u92.2], .slice A93 u92.1.length c93, .bool u92.2, j135, j136, j137, j138, j139, j140, j141, j142, .bool x108, .bool u89.2, .int .i64 x1040, .slice A87 u85.2.1.length c87, .int .i64 (u85.2.1.length : Int), .bool (decide (x1040 ≤ (u85.2.1.length : Int))), j149, j150, getL l' 151, getL l' 152, getL l' 153, getL l' 154, getL l' 155, getL l' 156, getL l' 157, getL l' 158, getL l' 159, getL l' 160, getL l' 161, getL l' 162, getL l' 163, getL l' 164, getL l' 165, getL l' 166, getL l' 167, getL l' 168, getL l' 169, getL l' 170, getL l' 171, getL l' 172, getL l' 173, j174, j175, j176, j177, j178] ∧ Hp sb s F0 s' [Ck.ol OI 3 A86 c86 u85.1, Ck.ol OI 3 A87 c87 u85.2.1, Ck.ol OI 3 A90 c90 u89.1]) (((x1040) - (0)).toNat + 2) ⟨false, 0, H, rfl, hH⟩ ?_
                            rintro kf l' s1478 ⟨x1458, x1459, H, hl, hH⟩ K1478 hK1478
                            generalize getL l' 28 = j28, getL l' 29 = j29, getL l' 151 = j151, getL l' 152 = j152, getL l' 153 = j153, getL l' 154 = j154, getL l' 155 = j155, getL l' 156 = j156, getL l' 157 = j157, getL l' 158 = j158, getL l' 159 = j159, getL l' 160 = j160, getL l' 161 = j161, getL l' 162 = j162, getL l' 163 = j163, getL l' 164 = j164, getL l' 165 = j165, getL l' 166 = j166, getL l' 167 = j167, getL l' 168 = j168, getL l' 169 = j169, getL l' 170 = j170, getL l' 171 = j171, getL l' 172 = j172, getL l' 173 = j173 at hl
                            subst hl
                            cases kf with
                            | zero => simp [laws_FnDistance.l2] at H
                            | succ kf =>
                              rw [laws_FnDistance.l2] at H
                              refine HT_seq_k ?_
                              intro K1479 hK1479
                              refine HT_seq_k ?_
                              intro K1480 hK1480
                              refine HT_region ?_
                              refine HL_cons rfl ?_
                              refine o_move ?_
                              try dsimp only [putL, setL, evL, getL]
                              refine HL_cons rfl ?_
                              refine o_move ?_
                              try dsimp only [putL, setL, evL, getL]
                              refine HL_cons rfl ?_
                              refine o_bin rfl rfl rfl ?_
                              try dsimp only [putL, setL, evL, getL]
                              refine HL_nil ?_
                              refine hK1480 _ _ ?_
                              rcases Bool.eq_false_or_eq_true (decide (x1459 ≤ x1040)) with hb1481 | hb1481
                              · replace H := iteT hb1481 H
                                refine HT_true (congrArg Value.bool hb1481) ?_
                                refine HT_skip ?_
                                refine hK1479 _ _ ?_
                                refine joinH H fun G1482 hG1482 H => ?_
                                refine HT_joinK (fun l' s' => ∃ (x1488 : Bool), G1482 x1488 = some r ∧ l' = [.slice A0p p0.length c0p, .slice A1p p1.length c1p, undef, undef, j4, .slice A9 u8.1.length c9, .slice A10 u8.2.length c10, .int .i64 u12.1, .bool u12.2, .int .i64 u14.1, .bool u14.2, .int .i64 u16.1, .bool u16.2, .slice A55 u54.length c55, .int .i64 u57.1, .bool u57.2, .int .i64 u59.1, .bool u59.2, .slice A86 u85.1.length c86, .slice A87 u85.2.1.length c87, .int .i64 u85.2.2, .slice A90 u89.1.length c90, .bool u89.2, .slice A93 u92.1.length c93, .bool u92.2, .int .i64 x1040, .bool x1488, .int .i64 x1459, getL l' 28, getL l' 29, .slice A0p p0.length c0p, .slice A1p p1.length c1p, .bool u4, .tuple #[.slice A9 u8.1.length c9, .slice A10 u8.2.length c10], .slice A0p p0.length c0p, .tuple #[.slice A9 u8.1.length c9, .slice A10 u8.2.length c10], .slice A9 u8.1.length c9, .slice A10 u8.2.length c10, .tuple #[.int .i64 u12.1, .bool u12.2], .slice A9 u8.1.length c9, .slice A10 u8.2.length c10, .tuple #[.int .i64 u12.1, .bool u12.2], .int .i64 u12.1, .bool u12.2, .tuple #[.int .i64 u14.1, .bool u14.2], .slice A9 u8.1.length c9, .slice A10 u8.2.length c10, .tuple #[.int .i64 u14.1, .bool u14.2], .int .i64 u14.1, .bool u14.2, .tuple #[.int .i64 u16.1, .bool u16.2], .slice A10 u8.2.length c10, .slice A9 u8.1.length c9, .tuple #[.int .i64 u16.1, .bool u16.2], .int .i64 u16.1, .bool u16.2, j56, j57, j58, j59, j60, j61, j62, j63, j64, j65, j66, j67, j68, j69, j70, j71, j72, j73, j74, j75, j76, j77, j78, j79, j80, j81, j82, j83, .bool x43, .slice A1p p1.length c1p, .slice A55 u54.length c55, .tuple #[.int .i64 u57.1, .bool u57.2], .slice A9 u8.1.length c9, .slice A55 u54.length c55, .tuple #[.int .i64 u57.1, .bool u57.2], .int .i64 u57.1, .bool u57.2, .tuple #[.int .i64 u59.1, .bool u59.2], .slice A55 u54.length c55, .slice A10 u8.2.length c10, .tuple #[.int .i64 u59.1, .bool u59.2], .int .i64 u59.1, .bool u59.2, j99, j100, j101, j102, j103, j104, j105, j106, j107, j108, j109, j110, j111, j112, j113, .bool x77, .tuple #[.slice A86 u85.1.length c86, .slice A87 u85.2.1.length c87, .int .i64 u85.2.2], .slice A1p p1.length c1p, .tuple #[.slice A86 u85.1.length c86, .slice A87 u85.2.1.length c87, .int .i64 u85.2.2], .slice A86 u85.1.length c86, .slice A87 u85.2.1.length c87, .int .i64 u85.2.2, .tuple #[.slice A90 u89.1.length c90, .bool u89.2], .slice A86 u85.1.length c86, .slice A87 u85.2.1.length c87, .int .i64 u85.2.2, .tuple #[.slice A90 u89.1.length c90, .bool u89.2], .slice A90 u89.1.length c90, .bool u89.2, .tuple #[.slice A93 u92.1.length c93, .bool u92.2], .slice A86 u85.1.length c86, .slice A87 u85.2.1.length c87, .int .i64 u85.2.2, .tuple #[.slice A93 u92.1.length c93, .bool u92.2], .slice A93 u92.1.length c93, .bool u92.2, j135, j136, j137, j138, j139, j140, j141, j142, .bool x108, .bool u89.2, .int .i64 x1040, .slice A87 u85.2.1.length c87, .int .i64 (u85.2.1.length : Int), .bool (decide (x1040 ≤ (u85.2.1.length : Int))), j149, j150, .int .i64 x1459, .int .i64 x1040, .bool (decide (x1459 ≤ x1040)), j154, j155, getL l' 156, getL l' 157, getL l' 158, getL l' 159, getL l' 160, getL l' 161, getL l' 162, getL l' 163, getL l' 164, getL l' 165, getL l' 166, getL l' 167, getL l' 168, getL l' 169, getL l' 170, getL l' 171, getL l' 172, getL l' 173, j174, j175, j176, j177, j178] ∧ Hp sb s F0 s' [Ck.ol OI 3 A86 c86 u85.1, Ck.ol OI 3 A87 c87 u85.2.1, Ck.ol OI 3 A90 c90 u89.1]) ?_ ?_
                                · intro K1482 hK1482
                                  refine HT_block ?_
                                  refine HT_seq_k ?_
                                  intro K1489 hK1489
                                  refine HT_region ?_
                                  refine HL_cons rfl ?_
                                  refine o_move ?_
                                  try dsimp only [putL, setL, evL, getL]
                                  refine HL_cons rfl ?_
                                  refine o_move ?_
                                  try dsimp only [putL, setL, evL, getL]
                                  refine HL_cons rfl ?_
                                  refine o_move ?_
                                  try dsimp only [putL, setL, evL, getL]
                                  refine HL_cons rfl ?_
                                  refine o_move ?_
                                  try dsimp only [putL, setL, evL, getL]
                                  replace H := headE H
                                  obtain ⟨x1490, hx1490, H⟩ := H
                                  refine HL_cons rfl ?_
                                  refine o_cutA (xs := u85.2.1) (kl := .i64) (kh := .i64) (L := x1459) (H := x1040) rfl rfl rfl Try.underlying24 tI3 (hH.rd 1 rfl).1 hx1490 ?_
                                  have D1490 := @Der.cut _ _ OI 3 A87 c87 _ _ _ _ hx1490
                                  try dsimp only [putL, setL, evL, getL]
                                  replace H := headE H
                                  obtain ⟨u1491, hu1491, H⟩ := H
                                  refine HL_cons rfl ?_
                                  refine o_call (args := #[.slice A86 u85.1.length c86, .slice (cutA A87 c87 (Int.toNat x1459) (Kd.sz KI)) x1490.length (c87 - Int.toNat x1459)]) Try.func16 rfl rfl rfl (impl_DistanceOf.ok s1478 s1478 no A86 c86 u85.1 (cutA A87 c87 (Int.toNat x1459) (Kd.sz KI)) (c87 - Int.toNat x1459) x1490 (hH.rd 0 rfl) (D1490 _ _ hH.bs (hH.ckP 1)) (Hp.own (Bs.refl s1478)) _ hu1491) ?_
                                  rintro _ s1491 ⟨rfl, hD⟩
                                  replace hH := hH.back0T hD
                                  clear hD
                                  dsimp only [addC, setC, rmC, selC, getC] at hH
                                  try dsimp only [putL, setL, evL, getL]
                                  refine HL_cons rfl ?_
                                  refine o_move ?_
                                  try dsimp only [putL, setL, evL, getL]
                                  refine HL_cons rfl ?_
                                  refine o_extract rfl rfl ?_
                                  try dsimp only [putL, setL, evL, getL]
                                  refine HL_cons rfl ?_
                                  refine o_extract rfl rfl ?_
                                  try dsimp only [putL, setL, evL, getL]
                                  refine HL_cons rfl ?_
                                  refine o_assign ?_
                                  try dsimp only [putL, setL, evL, getL]
                                  refine HL_cons rfl ?_
                                  refine o_assign ?_
                                  try dsimp only [putL, setL, evL, getL]
                                  refine HL_nil ?_
                                  refine hK1489 _ _ ?_
                                  refine HT_region ?_
                                  refine HL_cons rfl ?_
                                  refine o_move ?_
                                  try dsimp only [putL, setL, evL, getL]
                                  refine HL_cons rfl ?_
                                  refine o_move ?_
                                  try dsimp only [putL, setL, evL, getL]
                                  rcases Bool.eq_false_or_eq_true x1458 with hb1492 | hb1492
                                  · replace H := iteT hb1492 H
                                    refine HL_skip ?_ ?_
                                    · exact wantF (j := 1) (b := false) (t := 166) (c := x1458) rfl rfl rfl rfl hb1492
                                    try dsimp only [putL, setL, evL, getL]
                                    refine HL_skip ?_ ?_
                                    · exact wantF (j := 1) (b := false) (t := 166) (c := x1458) rfl rfl rfl rfl hb1492
                                    try dsimp only [putL, setL, evL, getL]
                                    refine HL_skip ?_ ?_
                                    · exact wantU (j := 3) (b := true) (t := 168) rfl rfl rfl rfl
                                    try dsimp only [putL, setL, evL, getL]
                                    refine HL_skip ?_ ?_
                                    · exact wantU (j := 3) (b := true) (t := 168) rfl rfl rfl rfl
                                    try dsimp only [putL, setL, evL, getL]
                                    refine HL_skip ?_ ?_
                                    · exact wantU (j := 3) (b := true) (t := 168) rfl rfl rfl rfl
                                    try dsimp only [putL, setL, evL, getL]
                                    refine HL_skip ?_ ?_
                                    · exact wantF (j := 1) (b := false) (t := 166) (c := x1458) rfl rfl rfl rfl hb1492
                                    try dsimp only [putL, setL, evL, getL]
                                    refine HL_cons rfl ?_
                                    refine o_pickT rfl hb1492 ?_
                                    try dsimp only [putL, setL, evL, getL]
                                    refine HL_cons rfl ?_
                                    refine o_assign ?_
                                    try dsimp only [putL, setL, evL, getL]
                                    refine HL_nil ?_
                                    exact hK1482 _ _ ⟨true, H, rfl, hH⟩
                                  · replace H := iteF hb1492 H
                                    refine HL_want ?_ ?_
                                    · exact wantT (j := 1) (b := false) (t := 166) (c := x1458) rfl rfl rfl rfl hb1492
                                    refine o_move ?_
                                    try dsimp only [putL, setL, evL, getL]
                                    refine HL_want ?_ ?_
                                    · exact wantT (j := 1) (b := false) (t := 166) (c := x1458) rfl rfl rfl rfl hb1492
                                    refine o_move ?_
                                    try dsimp only [putL, setL, evL, getL]
                                    rcases Bool.eq_false_or_eq_true u1491.2 with hb1493 | hb1493
                                    · replace H := iteT hb1493 H
                                      refine HL_want ?_ ?_
                                      · exact wantT (j := 3) (b := true) (t := 168) (c := u1491.2) rfl rfl rfl rfl hb1493
                                      refine o_move ?_
                                      try dsimp only [putL, setL, evL, getL]
                                      refine HL_want ?_ ?_
                                      · exact wantT (j := 3) (b := true) (t := 168) (c := u1491.2) rfl rfl rfl rfl hb1493
                                      refine o_move ?_
                                      try dsimp only [putL, setL, evL, getL]
                                      refine HL_want ?_ ?_
                                      · exact wantT (j := 3) (b := true) (t := 168) (c := u1491.2) rfl rfl rfl rfl hb1493
                                      refine o_bin rfl rfl rfl ?_
                                      try dsimp only [putL, setL, evL, getL]
                                      refine HL_want ?_ ?_
                                      · exact wantT (j := 1) (b := false) (t := 166) (c := x1458) rfl rfl rfl rfl hb1492
                                      refine o_pickT rfl hb1493 ?_
                                      try dsimp only [putL, setL, evL, getL]
                                      refine HL_cons rfl ?_
                                      refine o_pickF rfl hb1492 ?_
                                      try dsimp only [putL, setL, evL, getL]
                                      refine HL_cons rfl ?_
                                      refine o_assign ?_
                                      try dsimp only [putL, setL, evL, getL]
                                      refine HL_nil ?_
                                      exact hK1482 _ _ ⟨decide (u1491.1 ≤ u85.2.2), H, rfl, hH⟩
                                    · replace H := iteF hb1493 H
                                      refine HL_skip ?_ ?_
                                      · exact wantF (j := 3) (b := true) (t := 168) (c := u1491.2) rfl rfl rfl rfl hb1493
                                      try dsimp only [putL, setL, evL, getL]
                                      refine HL_skip ?_ ?_
                                      · exact wantF (j := 3) (b := true) (t := 168) (c := u1491.2) rfl rfl rfl rfl hb1493
                                      try dsimp only [putL, setL, evL, getL]
                                      refine HL_skip ?_ ?_
                                      · exact wantF (j := 3) (b := true) (t := 168) (c := u1491.2) rfl rfl rfl rfl hb1493
                                      try dsimp only [putL, setL, evL, getL]
                                      refine HL_want ?_ ?_
                                      · exact wantT (j := 1) (b := false) (t := 166) (c := x1458) rfl rfl rfl rfl hb1492
                                      refine o_pickF rfl hb1493 ?_
                                      try dsimp only [putL, setL, evL, getL]
                                      refine HL_cons rfl ?_
                                      refine o_pickF rfl hb1492 ?_
                                      try dsimp only [putL, setL, evL, getL]
                                      refine HL_cons rfl ?_
                                      refine o_assign ?_
                                      try dsimp only [putL, setL, evL, getL]
                                      refine HL_nil ?_
                                      exact hK1482 _ _ ⟨false, H, rfl, hH⟩
                                · rintro l' s1494 ⟨x1488, H, hl, hH⟩
                                  generalize getL l' 28 = j28, getL l' 29 = j29, getL l' 156 = j156, getL l' 157 = j157, getL l' 158 = j158, getL l' 159 = j159, getL l' 160 = j160, getL l' 161 = j161, getL l' 162 = j162, getL l' 163 = j163, getL l' 164 = j164, getL l' 165 = j165, getL l' 166 = j166, getL l' 167 = j167, getL l' 168 = j168, getL l' 169 = j169, getL l' 170 = j170, getL l' 171 = j171, getL l' 172 = j172, getL l' 173 = j173 at hl
                                  subst hl
                                  replace H := hG1482 _ H
                                  try dsimp only at H
                                  refine HT_region ?_
                                  refine HL_cons rfl ?_
                                  refine o_move ?_
                                  try dsimp only [putL, setL, evL, getL]
                                  refine HL_cons rfl ?_
                                  refine o_bin rfl rfl rfl ?_
                                  try dsimp only [putL, setL, evL, getL]
                                  refine HL_cons rfl ?_
                                  refine o_assign ?_
                                  try dsimp only [putL, setL, evL, getL]
                                  refine HL_nil ?_
                                  exact hK1478 _ _ ⟨kf, Nat.lt_succ_self kf, x1488, IntKind.i64.wrap (x1459 + 1), H, rfl, hH⟩
                              · replace H := iteF hb1481 H
                                refine HT_false (congrArg Value.bool hb1481) ?_
                                refine HT_exit ?_
                                exact hK1391 _ _ ⟨x1458, H, rfl, hH⟩
                          · rintro l' s1495 ⟨x1443, H, hl, hH⟩
                            generalize getL l' 27 = j27, getL l' 28 = j28, getL l' 29 = j29, getL l' 151 = j151, getL l' 152 = j152, getL l' 153 = j153, getL l' 154 = j154, getL l' 155 = j155, getL l' 156 = j156, getL l' 157 = j157, getL l' 158 = j158, getL l' 159 = j159, getL l' 160 = j160, getL l' 161 = j161, getL l' 162 = j162, getL l' 163 = j163, getL l' 164 = j164, getL l' 165 = j165, getL l' 166 = j166, getL l' 167 = j167, getL l' 168 = j168, getL l' 169 = j169, getL l' 170 = j170, getL l' 171 = j171, getL l' 172 = j172, getL l' 173 = j173 at hl
                            subst hl
                            replace H := hG1391 _ H
                            try dsimp only at H
                            refine hK1389 _ _ ?_
                            refine HT_seq_k ?_
                            intro K1496 hK1496
                            refine HT_region ?_
                            refine HL_cons rfl ?_
                            refine o_move ?_
                            try dsimp only [putL, setL, evL, getL]
                            refine HL_cons rfl ?_
                            refine o_move ?_
                            try dsimp only [putL, setL, evL, getL]
                            refine HL_cons rfl ?_
                            refine o_move ?_
                            try dsimp only [putL, setL, evL, getL]
                            replace H := headE H
                            obtain ⟨u1497, hu1497, H⟩ := H
                            refine HL_cons rfl ?_
                            refine o_call (args := #[.slice A90 u89.1.length c90, .int .i64 x1040]) Try.func23 rfl rfl rfl (laws_has.ok s1495 s1495 no A90 c90 u89.1 x1040 (hH.rd 2 rfl) (Hp.own (Bs.refl s1495)) _ hu1497) ?_
                            rintro _ s1497 ⟨rfl, hD⟩
                            replace hH := hH.back0T hD
                            clear hD
                            dsimp only [addC, setC, rmC, selC, getC] at hH
                            try dsimp only [putL, setL, evL, getL]
                            refine HL_cons rfl ?_
                            refine o_neb rfl rfl Try.underlying4 ?_
                            try dsimp only [putL, setL, evL, getL]
                            refine HL_nil ?_
                            refine hK1496 _ _ ?_
                            rcases Bool.eq_false_or_eq_true (x1443 != u1497) with hb1498 | hb1498
                            · replace H := iteT hb1498 H
                              refine HT_true (congrArg Value.bool hb1498) ?_
                              refine HT_seq_k ?_
                              intro K1499 hK1499
                              refine HT_region ?_
                              refine HL_cons rfl ?_
                              refine o_assign ?_
                              try dsimp only [putL, setL, evL, getL]
                              refine HL_nil ?_
                              refine hK1499 _ _ ?_
                              refine HT_ret ?_
                              replace H := escH (fun z hz => hG1275 _ hz) H
                              replace H := escH (fun z hz => hG114 _ hz) H
                              exact hQr _ _ [.bool false] ⟨rfl, trivial⟩ (retH (fun r => laws_FnDistance.post sb s F0 r _ _) (show some _ = some r from H) ⟨rfl, hH.sel [] (by decide)⟩)
                            · replace H := iteF hb1498 H
                              refine HT_false (congrArg Value.bool hb1498) ?_
                              refine HT_skip ?_
                              exact hK1275 _ _ ⟨H, rfl, hH⟩
                        · rintro l' s1500 ⟨H, hl, hH⟩
                          generalize getL l' 4 = j4, getL l' 26 = j26, getL l' 27 = j27, getL l' 28 = j28, getL l' 29 = j29, getL l' 151 = j151, getL l' 152 = j152, getL l' 153 = j153, getL l' 154 = j154, getL l' 155 = j155, getL l' 156 = j156, getL l' 157 = j157, getL l' 158 = j158, getL l' 159 = j159, getL l' 160 = j160, getL l' 161 = j161, getL l' 162 = j162, getL l' 163 = j163, getL l' 164 = j164, getL l' 165 = j165, getL l' 166 = j166, getL l' 167 = j167, getL l' 168 = j168, getL l' 169 = j169, getL l' 170 = j170, getL l' 171 = j171, getL l' 172 = j172, getL l' 173 = j173, getL l' 174 = j174, getL l' 175 = j175, getL l' 176 = j176, getL l' 177 = j177, getL l' 178 = j178 at hl
                          subst hl
                          replace H := hG1275 _ H
                          try dsimp only at H
                          refine HT_region ?_
                          refine HL_cons rfl ?_
                          refine o_move ?_
                          try dsimp only [putL, setL, evL, getL]
                          refine HL_cons rfl ?_
                          refine o_bin rfl rfl rfl ?_
                          try dsimp only [putL, setL, evL, getL]
                          refine HL_cons rfl ?_
                          refine o_assign ?_
                          try dsimp only [putL, setL, evL, getL]
                          refine HL_nil ?_
                          exact hK1271 _ _ ⟨kf, Nat.lt_succ_self kf, IntKind.i64.wrap (x1040 + 1), H, rfl, hH⟩
                      · replace H := iteF hb1274 H
                        refine HT_false (congrArg Value.bool hb1274) ?_
                        refine HT_exit ?_
                        exact hK114 _ _ ⟨H, rfl, hH.sel [] (by decide)⟩
                  · replace H := iteF hb809 H
                    refine HT_false (congrArg Value.bool hb809) ?_
                    refine HT_skip ?_
                    exact hK114 _ _ ⟨H, rfl, hH.sel [] (by decide)⟩
                · rintro l' s1501 ⟨H, hl, hH⟩
                  generalize getL l' 4 = j4, getL l' 25 = j25, getL l' 26 = j26, getL l' 27 = j27, getL l' 28 = j28, getL l' 29 = j29, getL l' 144 = j144, getL l' 145 = j145, getL l' 146 = j146, getL l' 147 = j147, getL l' 148 = j148, getL l' 149 = j149, getL l' 150 = j150, getL l' 151 = j151, getL l' 152 = j152, getL l' 153 = j153, getL l' 154 = j154, getL l' 155 = j155, getL l' 156 = j156, getL l' 157 = j157, getL l' 158 = j158, getL l' 159 = j159, getL l' 160 = j160, getL l' 161 = j161, getL l' 162 = j162, getL l' 163 = j163, getL l' 164 = j164, getL l' 165 = j165, getL l' 166 = j166, getL l' 167 = j167, getL l' 168 = j168, getL l' 169 = j169, getL l' 170 = j170, getL l' 171 = j171, getL l' 172 = j172, getL l' 173 = j173, getL l' 174 = j174, getL l' 175 = j175, getL l' 176 = j176, getL l' 177 = j177, getL l' 178 = j178 at hl
                  subst hl
                  replace H := hG114 _ H
                  try dsimp only at H
                  refine HT_seq_k ?_
                  intro K1502 hK1502
                  refine HT_region ?_
                  refine HL_cons rfl ?_
                  refine o_assign ?_
                  try dsimp only [putL, setL, evL, getL]
                  refine HL_nil ?_
                  refine hK1502 _ _ ?_
                  refine HT_ret ?_
                  exact hQr _ _ [.bool true] ⟨rfl, trivial⟩ (retH (fun r => laws_FnDistance.post sb s F0 r _ _) (show some _ = some r from H) ⟨rfl, hH⟩)
end Go.Proofs.Ytkieinlcpkpcjaa
