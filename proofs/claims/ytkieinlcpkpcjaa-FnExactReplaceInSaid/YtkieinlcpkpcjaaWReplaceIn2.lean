/- The functions that the law reaches, as plain functions, each with its contract: printed by a program of the prover's. No conditions: lemmas. -/
import Derived.Test.YtkieinlcpkpcjaaWReplaceIn1
set_option linter.unusedVariables false
set_option linter.unusedSimpArgs false
namespace Go.Proofs.Ytkieinlcpkpcjaa
open Go Go.Proofs.GL
def spec_ReplaceIn.l1 (p2 : List (Int)) (u33 : (List (List (Int)))) : Nat → (List (Int)) → Int → Option (List (Int))
 | 0, _, _ => none
 | kf + 1, x174, x175 => if (decide (x175 < (u33.length : Int))) = true then ((rd? u33 x175).bind fun u229 => (if (decide (x175 > 0)) = true then ((app? 17592186044416 x174 p2).bind fun x238 => some x238) else (some x174)).bind fun (o : (List (Int))) => match o with | x235 => ((app? 17592186044416 x235 u229).bind fun x240 => spec_ReplaceIn.l1 p2 u33 kf x240 (IntKind.i64.wrap (x175 + 1)))) else (some x174)
def spec_ReplaceIn.f (p0 : List ((Int) × (List (Int)))) (p1 : List (Int)) (p2 : List (Int)) : Option ((List (Int)) × Bool) := ((spec_l14Asked.f p0 p1).bind fun u23 => if (!u23) = true then (some true) else ((spec_l1AllRunes.f p2).bind fun u25 => if (!u25) = true then (some true) else (some (decide ((p2.length : Int) > 40))))).bind fun (o : Bool) => match o with | x22 => (if x22 = true then (some ([], false)) else ((spec_l14Between.f p0 p1).bind fun u33 => (spec_ReplaceIn.l1 p2 u33 ((((u33.length : Int)) - (0)).toNat + 2) [] 0).bind fun (o : (List (Int))) => match o with | x138 => (if (decide ((x138.length : Int) > 120)) = true then (some ([], false)) else (some (x138, true)))))
def spec_ReplaceIn.post (sb s : St) (F0 : Fp) (r : (List (Int)) × Bool) : Value → St → Prop := fun v s' => ∃ (A0 : Option Addr) (c0 : Nat), v = .tuple #[.slice A0 r.1.length c0, .bool r.2] ∧ Hp sb s F0 s' [Ck.ol OI 3 A0 c0 r.1]
set_option maxRecDepth 100000 in
set_option maxHeartbeats 4000000 in
theorem spec_ReplaceIn.ok (sb s : St) (F0 : Fp) (A0p : Option Addr) (c0p : Nat) (p0 : List ((Int) × (List (Int)))) (A1p : Option Addr) (c1p : Nat) (p1 : List (Int)) (A2p : Option Addr) (c2p : Nat) (p2 : List (Int)) (HRp0 : Rd KS139 sb A0p c0p p0) (HRp1 : Rd KI sb A1p c1p p1) (HRp2 : Rd KI sb A2p c2p p2) (hH : Hp sb s F0 s []) (r : (List (Int)) × Bool) (H : spec_ReplaceIn.f p0 p1 p2 = some r) : GCall Try.prog 87 #[.slice A0p p0.length c0p, .slice A1p p1.length c1p, .slice A2p p2.length c2p] s (spec_ReplaceIn.post sb s F0 r) := by
 refine GCall_ofk [.tmp 6, .tmp 7] [.slice A0p p0.length c0p, .slice A1p p1.length c1p, .slice A2p p2.length c2p, undef, undef, undef, undef, undef, undef, undef, undef, undef, undef, undef, undef, undef, undef, undef, undef, undef, undef, undef, undef, undef, undef, undef, undef, undef, undef, undef, undef, undef, undef, undef, undef, undef, undef, undef, undef, undef, undef, undef, undef, undef, undef, undef, undef] Try.func87 rfl rfl rfl ?_
 intro w Q hQr hQn hQp
 replace H := topE H
 unfold spec_ReplaceIn.f at H
 refine HT_seq_k ?_
 intro K1 hK1
 refine HT_region ?_
 refine HL_cons rfl ?_
 refine o_assign ?_
 try dsimp only [putL, setL, evL, getL]
 refine HL_cons rfl ?_
 refine o_assign ?_
 try dsimp only [putL, setL, evL, getL]
 refine HL_nil ?_
 refine hK1 _ _ ?_
 refine HT_seq_k ?_
 intro K16 hK16
 refine joinH H fun G17 hG17 H => ?_
 refine HT_joinK (fun l' s' => ∃ (x22 : Bool), G17 x22 = some r ∧ l' = [.slice A0p p0.length c0p, .slice A1p p1.length c1p, .slice A2p p2.length c2p, undef, undef, undef, .slice none 0 0, .bool false, undef, undef, undef, getL l' 11, getL l' 12, getL l' 13, getL l' 14, getL l' 15, getL l' 16, getL l' 17, getL l' 18, getL l' 19, getL l' 20, getL l' 21, getL l' 22, getL l' 23, .bool x22, undef, undef, undef, undef, undef, undef, undef, undef, undef, undef, undef, undef, undef, undef, undef, undef, undef, undef, undef, undef, undef, undef] ∧ Hp sb s F0 s' []) ?_ ?_
 ·intro K17 hK17
  refine HT_region ?_
  refine HL_cons rfl ?_
  refine o_move ?_
  try dsimp only [putL, setL, evL, getL]
  refine HL_cons rfl ?_
  refine o_move ?_
  try dsimp only [putL, setL, evL, getL]
  replace H := headE H
  obtain ⟨u23, hu23, H⟩ := H
  refine HL_cons rfl ?_
  refine o_call (args := #[.slice A0p p0.length c0p, .slice A1p p1.length c1p]) Try.func150 rfl rfl rfl (spec_l14Asked.ok sb s no A0p c0p p0 A1p c1p p1 HRp0 HRp1 (Hp.own hH.bs) _ hu23) ?_
  rintro _ s23 ⟨rfl, hD⟩
  replace hH := hH.back0 hD (Up.refl _ _ _)
  clear hD
  dsimp only [addC, setC, rmC, selC, getC] at hH
  try dsimp only [putL, setL, evL, getL]
  refine HL_cons rfl ?_
  refine o_not rfl ?_
  try dsimp only [putL, setL, evL, getL]
  refine HL_cons rfl ?_
  refine o_move ?_
  try dsimp only [putL, setL, evL, getL]
  rcases Bool.eq_false_or_eq_true (!u23) with hb24 | hb24
  ·replace H := iteT hb24 H
   refine HL_skip ?_ ?_
   ·exact wantF (j := 4) (b := false) (t := 15) (c := !u23) rfl rfl rfl rfl hb24
   try dsimp only [putL, setL, evL, getL]
   refine HL_skip ?_ ?_
   ·exact wantF (j := 4) (b := false) (t := 15) (c := !u23) rfl rfl rfl rfl hb24
   try dsimp only [putL, setL, evL, getL]
   refine HL_skip ?_ ?_
   ·exact wantF (j := 4) (b := false) (t := 15) (c := !u23) rfl rfl rfl rfl hb24
   try dsimp only [putL, setL, evL, getL]
   refine HL_cons rfl ?_
   refine o_pickT rfl hb24 ?_
   try dsimp only [putL, setL, evL, getL]
   refine HL_cons rfl ?_
   refine o_move ?_
   try dsimp only [putL, setL, evL, getL]
   refine HL_skip ?_ ?_
   ·exact wantF (j := 9) (b := false) (t := 20) (c := true) rfl rfl rfl rfl rfl
   try dsimp only [putL, setL, evL, getL]
   refine HL_skip ?_ ?_
   ·exact wantF (j := 9) (b := false) (t := 20) (c := true) rfl rfl rfl rfl rfl
   try dsimp only [putL, setL, evL, getL]
   refine HL_skip ?_ ?_
   ·exact wantF (j := 9) (b := false) (t := 20) (c := true) rfl rfl rfl rfl rfl
   try dsimp only [putL, setL, evL, getL]
   refine HL_cons rfl ?_
   refine o_pickT rfl rfl ?_
   try dsimp only [putL, setL, evL, getL]
   refine HL_nil ?_
   exact hK17 _ _ ⟨true, H, rfl, hH⟩
  ·replace H := iteF hb24 H
   refine HL_want ?_ ?_
   ·exact wantT (j := 4) (b := false) (t := 15) (c := !u23) rfl rfl rfl rfl hb24
   refine o_move ?_
   try dsimp only [putL, setL, evL, getL]
   replace H := headE H
   obtain ⟨u25, hu25, H⟩ := H
   refine HL_want ?_ ?_
   ·exact wantT (j := 4) (b := false) (t := 15) (c := !u23) rfl rfl rfl rfl hb24
   refine o_call (args := #[.slice A2p p2.length c2p]) Try.func119 rfl rfl rfl (spec_l1AllRunes.ok sb s23 no A2p c2p p2 HRp2 (Hp.own hH.bs) _ hu25) ?_
   rintro _ s25 ⟨rfl, hD⟩
   replace hH := hH.back0 hD (Up.refl _ _ _)
   clear hD
   dsimp only [addC, setC, rmC, selC, getC] at hH
   try dsimp only [putL, setL, evL, getL]
   refine HL_want ?_ ?_
   ·exact wantT (j := 4) (b := false) (t := 15) (c := !u23) rfl rfl rfl rfl hb24
   refine o_not rfl ?_
   try dsimp only [putL, setL, evL, getL]
   refine HL_cons rfl ?_
   refine o_pickF rfl hb24 ?_
   try dsimp only [putL, setL, evL, getL]
   refine HL_cons rfl ?_
   refine o_move ?_
   try dsimp only [putL, setL, evL, getL]
   rcases Bool.eq_false_or_eq_true (!u25) with hb26 | hb26
   ·replace H := iteT hb26 H
    refine HL_skip ?_ ?_
    ·exact wantF (j := 9) (b := false) (t := 20) (c := !u25) rfl rfl rfl rfl hb26
    try dsimp only [putL, setL, evL, getL]
    refine HL_skip ?_ ?_
    ·exact wantF (j := 9) (b := false) (t := 20) (c := !u25) rfl rfl rfl rfl hb26
    try dsimp only [putL, setL, evL, getL]
    refine HL_skip ?_ ?_
    ·exact wantF (j := 9) (b := false) (t := 20) (c := !u25) rfl rfl rfl rfl hb26
    try dsimp only [putL, setL, evL, getL]
    refine HL_cons rfl ?_
    refine o_pickT rfl hb26 ?_
    try dsimp only [putL, setL, evL, getL]
    refine HL_nil ?_
    exact hK17 _ _ ⟨true, H, rfl, hH⟩
   ·replace H := iteF hb26 H
    refine HL_want ?_ ?_
    ·exact wantT (j := 9) (b := false) (t := 20) (c := !u25) rfl rfl rfl rfl hb26
    refine o_move ?_
    try dsimp only [putL, setL, evL, getL]
    refine HL_want ?_ ?_
    ·exact wantT (j := 9) (b := false) (t := 20) (c := !u25) rfl rfl rfl rfl hb26
    refine o_len rfl Try.underlying24 ?_
    try dsimp only [putL, setL, evL, getL]
    refine HL_want ?_ ?_
    ·exact wantT (j := 9) (b := false) (t := 20) (c := !u25) rfl rfl rfl rfl hb26
    refine o_bin rfl rfl rfl ?_
    try dsimp only [putL, setL, evL, getL]
    refine HL_cons rfl ?_
    refine o_pickF rfl hb26 ?_
    try dsimp only [putL, setL, evL, getL]
    refine HL_nil ?_
    exact hK17 _ _ ⟨decide ((p2.length : Int) > 40), H, rfl, hH⟩
 ·rintro l' s27 ⟨x22, H, hl, hH⟩
  generalize getL l' 11 = j11, getL l' 12 = j12, getL l' 13 = j13, getL l' 14 = j14, getL l' 15 = j15, getL l' 16 = j16, getL l' 17 = j17, getL l' 18 = j18, getL l' 19 = j19, getL l' 20 = j20, getL l' 21 = j21, getL l' 22 = j22, getL l' 23 = j23 at hl
  subst hl
  replace H := hG17 _ H
  try dsimp only at H
  rcases Bool.eq_false_or_eq_true x22 with hb28 | hb28
  ·replace H := iteT hb28 H
   refine HT_true (congrArg Value.bool hb28) ?_
   refine HT_seq_k ?_
   intro K29 hK29
   refine HT_region ?_
   refine HL_cons rfl ?_
   refine o_assign ?_
   try dsimp only [putL, setL, evL, getL]
   refine HL_cons rfl ?_
   refine o_assign ?_
   try dsimp only [putL, setL, evL, getL]
   refine HL_nil ?_
   refine hK29 _ _ ?_
   refine HT_ret ?_
   exact hQr _ _ [.slice none 0 0, .bool false] ⟨rfl, rfl, trivial⟩ (retH (fun r => spec_ReplaceIn.post sb s F0 r _ _) (show some _ = some r from H) ⟨none, 0, rfl, (hH.nil (K := KI) OI 3)⟩)
  ·replace H := iteF hb28 H
   refine HT_false (congrArg Value.bool hb28) ?_
   refine HT_skip ?_
   refine hK16 _ _ ?_
   refine HT_seq_k ?_
   intro K30 hK30
   refine HT_region ?_
   refine HL_cons rfl ?_
   refine o_assign ?_
   try dsimp only [putL, setL, evL, getL]
   refine HL_nil ?_
   refine hK30 _ _ ?_
   refine HT_seq_k ?_
   intro K31 hK31
   refine HT_seq_k ?_
   intro K32 hK32
   refine HT_region ?_
   refine HL_cons rfl ?_
   refine o_move ?_
   try dsimp only [putL, setL, evL, getL]
   refine HL_cons rfl ?_
   refine o_move ?_
   try dsimp only [putL, setL, evL, getL]
   replace H := headE H
   obtain ⟨u33, hu33, H⟩ := H
   refine HL_cons rfl ?_
   refine o_call (args := #[.slice A0p p0.length c0p, .slice A1p p1.length c1p]) Try.func172 rfl rfl rfl (spec_l14Between.ok sb s27 no A0p c0p p0 A1p c1p p1 HRp0 HRp1 (Hp.own hH.bs) _ hu33) ?_
   rintro _ s33 ⟨A34, c34, rfl, hD⟩
   replace hH := hH.back0 hD (Up.refl _ _ _)
   clear hD
   dsimp only [addC, setC, rmC, selC, getC] at hH
   try dsimp only [putL, setL, evL, getL]
   refine HL_cons rfl ?_
   refine o_len rfl Try.underlying105 ?_
   try dsimp only [putL, setL, evL, getL]
   refine HL_cons rfl ?_
   refine o_move ?_
   try dsimp only [putL, setL, evL, getL]
   refine HL_nil ?_
   refine hK32 _ _ ?_
   refine joinH H fun G35 hG35 H => ?_
   refine HT_toK (fun l' s' => ∃ (x138 : List (Int)) (A138 : Option Addr) (c138 : Nat), G35 x138 = some r ∧ l' = [.slice A0p p0.length c0p, .slice A1p p1.length c1p, .slice A2p p2.length c2p, undef, undef, undef, .slice none 0 0, .bool false, .slice A138 x138.length c138, getL l' 9, getL l' 10, j11, j12, j13, j14, j15, j16, j17, j18, j19, j20, j21, j22, j23, .bool x22, .slice A0p p0.length c0p, .slice A1p p1.length c1p, .slice A34 u33.length c34, .int .i64 (u33.length : Int), getL l' 29, getL l' 30, getL l' 31, getL l' 32, getL l' 33, getL l' 34, getL l' 35, getL l' 36, getL l' 37, getL l' 38, getL l' 39, getL l' 40, getL l' 41, getL l' 42, undef, undef, undef, undef] ∧ Hp sb s F0 s' [Ck.ol OI 3 A138 c138 x138]) ?_ ?_
   ·intro K35 hK35
    refine HT_block ?_
    refine HT_loopK (fun kf l' s' => ∃ (x174 : List (Int)) (A174 : Option Addr) (c174 : Nat) (x175 : Int), (spec_ReplaceIn.l1 p2 u33 kf x174 x175).bind G35 = some r ∧ l' = [.slice A0p p0.length c0p, .slice A1p p1.length c1p, .slice A2p p2.length c2p, undef, undef, undef, .slice none 0 0, .bool false, .slice A174 x174.length c174, getL l' 9, getL l' 10, j11, j12, j13, j14, j15, j16, j17, j18, j19, j20, j21, j22, j23, .bool x22, .slice A0p p0.length c0p, .slice A1p p1.length c1p, .slice A34 u33.length c34, .int .i64 (u33.length : Int), .int .i64 x175, getL l' 30, getL l' 31, getL l' 32, getL l' 33, getL l' 34, getL l' 35, getL l' 36, getL l' 37, getL l' 38, getL l' 39, getL l' 40, getL l' 41, getL l' 42, undef, undef, undef, undef] ∧ Hp sb s F0 s' [Ck.ol OI 3 A174 c174 x174, Ck.ol (Ow.sl OI 3) 24 A34 c34 u33]) ((((u33.length : Int)) - (0)).toNat + 2) ⟨[], none, 0, 0, H, rfl, (hH.nil (K := KI) OI 3).sel [1, 0] (by decide)⟩ ?_
    rintro kf l' s209 ⟨x174, A174, c174, x175, H, hl, hH⟩ K209 hK209
    generalize getL l' 9 = j9, getL l' 10 = j10, getL l' 30 = j30, getL l' 31 = j31, getL l' 32 = j32, getL l' 33 = j33, getL l' 34 = j34, getL l' 35 = j35, getL l' 36 = j36, getL l' 37 = j37, getL l' 38 = j38, getL l' 39 = j39, getL l' 40 = j40, getL l' 41 = j41, getL l' 42 = j42 at hl
    subst hl
    cases kf with
    | zero => simp [spec_ReplaceIn.l1] at H
    | succ kf =>
     rw [spec_ReplaceIn.l1] at H
     refine HT_seq_k ?_
     intro K210 hK210
     refine HT_region ?_
     refine HL_cons rfl ?_
     refine o_bin rfl rfl rfl ?_
     try dsimp only [putL, setL, evL, getL]
     refine HL_nil ?_
     refine hK210 _ _ ?_
     refine HT_seq_k ?_
     intro K211 hK211
     rcases Bool.eq_false_or_eq_true (decide (x175 < (u33.length : Int))) with hb212 | hb212
     ·replace H := iteT hb212 H
      refine HT_true (congrArg Value.bool hb212) ?_
      refine HT_skip ?_
      refine hK211 _ _ ?_
      refine HT_seq_k ?_
      intro K227 hK227
      refine HT_block ?_
      refine HT_seq_k ?_
      intro K228 hK228
      refine HT_region ?_
      refine HL_cons rfl ?_
      refine o_move ?_
      try dsimp only [putL, setL, evL, getL]
      replace H := headE H
      obtain ⟨u229, hu229, H⟩ := H
      obtain ⟨b229, o229, vs229, hA229, -, hH⟩ := hH.open 1 rfl rfl hu229
      dsimp only [addC, setC, rmC, selC, getC] at hH
      obtain ⟨A230, c230, rfl, hH⟩ := hH.el_sl 2 rfl rfl
      dsimp only [addC, setC, rmC, selC, getC] at hH
      replace hH : Hp sb s F0 s209 [Ck.ol OI 3 A174 c174 x174, Ck.oh (Ow.sl OI 3) 24 A34 c34 u33 (Int.toNat x175) [.slice A230 u229.length c230], Ck.ol OI 3 A230 c230 u229] := hH
      refine HL_cons rfl ?_
      refine iaddr_of (K := (Kd.sl KI)) hA229 hu229 s209 rfl rfl Try.underlying105 tI24 ?_
      try dsimp only [putL, setL, evL, getL]
      refine HL_cons rfl ?_
      refine o_load' rfl Try.underlying24 rfl (hH.hasoh 1 rfl hA229 0 _ rfl) ?_
      try dsimp only [putL, setL, evL, getL]
      refine HL_cons rfl ?_
      refine o_assign ?_
      try dsimp only [putL, setL, evL, getL]
      refine HL_cons rfl ?_
      refine o_assign ?_
      try dsimp only [putL, setL, evL, getL]
      refine HL_nil ?_
      refine hK228 _ _ ?_
      refine joinH H fun G231 hG231 H => ?_
      refine HT_joinK (fun l' s' => ∃ (x235 : List (Int)) (A235 : Option Addr) (c235 : Nat), G231 x235 = some r ∧ l' = [.slice A0p p0.length c0p, .slice A1p p1.length c1p, .slice A2p p2.length c2p, undef, undef, undef, .slice none 0 0, .bool false, .slice A235 x235.length c235, .int .i64 x175, .slice A230 u229.length c230, j11, j12, j13, j14, j15, j16, j17, j18, j19, j20, j21, j22, j23, .bool x22, .slice A0p p0.length c0p, .slice A1p p1.length c1p, .slice A34 u33.length c34, .int .i64 (u33.length : Int), .int .i64 x175, .bool (decide (x175 < (u33.length : Int))), .int .i64 x175, .pointer (some ⟨b229, o229 + Int.toNat x175 * Kd.sz (Kd.sl KI), none⟩), .slice A230 u229.length c230, getL l' 34, getL l' 35, getL l' 36, getL l' 37, getL l' 38, j39, j40, j41, j42, undef, undef, undef, undef] ∧ Hp sb s F0 s' [Ck.ol OI 3 A235 c235 x235, Ck.ol OI 3 A230 c230 u229, Ck.oh (Ow.sl OI 3) 24 A34 c34 u33 (Int.toNat x175) [.slice A230 u229.length c230]]) ?_ ?_
      ·intro K231 hK231
       refine HT_seq_k ?_
       intro K236 hK236
       refine HT_region ?_
       refine HL_cons rfl ?_
       refine o_move ?_
       try dsimp only [putL, setL, evL, getL]
       refine HL_cons rfl ?_
       refine o_bin rfl rfl rfl ?_
       try dsimp only [putL, setL, evL, getL]
       refine HL_nil ?_
       refine hK236 _ _ ?_
       rcases Bool.eq_false_or_eq_true (decide (x175 > 0)) with hb237 | hb237
       ·replace H := iteT hb237 H
        refine HT_true (congrArg Value.bool hb237) ?_
        refine HT_region ?_
        refine HL_cons rfl ?_
        refine o_move ?_
        try dsimp only [putL, setL, evL, getL]
        refine HL_cons rfl ?_
        refine o_move ?_
        try dsimp only [putL, setL, evL, getL]
        replace H := headE H
        obtain ⟨x238, hx238, H⟩ := H
        refine HL_cons rfl ?_
        refine o_appF (K := KI) (n := 17592186044416) (A := A174) (c := c174) (xs := x174) (ys := p2) (B := A2p) (c2 := c2p) hH 0 rfl rfl rfl rfl Try.underlying24 tI3 rfl (by decide) (by decide) (by decide) (Src.flat (HRp2.mono hH.bs.mono)) hx238 ?_
        intro A238 c238 s238 hH'
        replace hH : Hp sb s F0 s238 [Ck.ol OI 3 A238 c238 x238, Ck.oh (Ow.sl OI 3) 24 A34 c34 u33 (Int.toNat x175) [.slice A230 u229.length c230], Ck.ol OI 3 A230 c230 u229] := hH'
        clear hH'
        try dsimp only [putL, setL, evL, getL]
        refine HL_cons rfl ?_
        refine o_assign ?_
        try dsimp only [putL, setL, evL, getL]
        refine HL_nil ?_
        exact hK231 _ _ ⟨x238, A238, c238, H, rfl, hH.sel [0, 2, 1] (by decide)⟩
       ·replace H := iteF hb237 H
        refine HT_false (congrArg Value.bool hb237) ?_
        refine HT_skip ?_
        exact hK231 _ _ ⟨x174, A174, c174, H, rfl, hH.sel [0, 2, 1] (by decide)⟩
      ·rintro l' s239 ⟨x235, A235, c235, H, hl, hH⟩
       generalize getL l' 34 = j34, getL l' 35 = j35, getL l' 36 = j36, getL l' 37 = j37, getL l' 38 = j38 at hl
       subst hl
       replace H := hG231 _ H
       try dsimp only at H
       refine HT_region ?_
       refine HL_cons rfl ?_
       refine o_move ?_
       try dsimp only [putL, setL, evL, getL]
       refine HL_cons rfl ?_
       refine o_move ?_
       try dsimp only [putL, setL, evL, getL]
       replace H := headE H
       obtain ⟨x240, hx240, H⟩ := H
       refine HL_cons rfl ?_
       refine o_appF (K := KI) (n := 17592186044416) (A := A235) (c := c235) (xs := x235) (ys := u229) (B := A230) (c2 := c230) hH 0 rfl rfl rfl rfl Try.underlying24 tI3 rfl (by decide) (by decide) (by decide) (Src.flat (hH.rd 1 rfl)) hx240 ?_
       intro A240 c240 s240 hH'
       replace hH : Hp sb s F0 s240 [Ck.ol OI 3 A240 c240 x240, Ck.ol OI 3 A230 c230 u229, Ck.oh (Ow.sl OI 3) 24 A34 c34 u33 (Int.toNat x175) [.slice A230 u229.length c230]] := hH'
       clear hH'
       try dsimp only [putL, setL, evL, getL]
       refine HL_cons rfl ?_
       refine o_assign ?_
       try dsimp only [putL, setL, evL, getL]
       refine HL_nil ?_
       refine hK227 _ _ ?_
       refine HT_region ?_
       refine HL_cons rfl ?_
       refine o_bin rfl rfl rfl ?_
       try dsimp only [putL, setL, evL, getL]
       refine HL_cons rfl ?_
       refine o_move ?_
       try dsimp only [putL, setL, evL, getL]
       refine HL_nil ?_
       replace hH := hH.conv [1] (by decide) (d := Ck.el (Ow.sl OI 3) [.slice A230 u229.length c230] u229) Ent.sl
       dsimp only [addC, setC, rmC, selC, getC] at hH
       replace hH := hH.close (i := x175) 2 3 (by decide) rfl rfl rfl (st?_same hu229)
       dsimp only [addC, setC, rmC, selC, getC] at hH
       replace hH : Hp sb s F0 s240 [Ck.ol OI 3 A240 c240 x240, Ck.emp, Ck.ol (Ow.sl OI 3) 24 A34 c34 u33, Ck.emp] := hH
       exact hK209 _ _ ⟨kf, Nat.lt_succ_self kf, x240, A240, c240, IntKind.i64.wrap (x175 + 1), H, rfl, hH.sel [0, 2] (by decide)⟩
     ·replace H := iteF hb212 H
      refine HT_false (congrArg Value.bool hb212) ?_
      refine HT_exit ?_
      exact hK35 _ _ ⟨x174, A174, c174, H, rfl, hH.sel [0] (by decide)⟩
   ·rintro l' s241 ⟨x138, A138, c138, H, hl, hH⟩
    generalize getL l' 9 = j9, getL l' 10 = j10, getL l' 29 = j29, getL l' 30 = j30, getL l' 31 = j31, getL l' 32 = j32, getL l' 33 = j33, getL l' 34 = j34, getL l' 35 = j35, getL l' 36 = j36, getL l' 37 = j37, getL l' 38 = j38, getL l' 39 = j39, getL l' 40 = j40, getL l' 41 = j41, getL l' 42 = j42 at hl
    subst hl
    replace H := hG35 _ H
    try dsimp only at H
    refine hK31 _ _ ?_
    refine HT_seq_k ?_
    intro K242 hK242
    refine HT_seq_k ?_
    intro K243 hK243
    refine HT_region ?_
    refine HL_cons rfl ?_
    refine o_move ?_
    try dsimp only [putL, setL, evL, getL]
    refine HL_cons rfl ?_
    refine o_len rfl Try.underlying24 ?_
    try dsimp only [putL, setL, evL, getL]
    refine HL_cons rfl ?_
    refine o_bin rfl rfl rfl ?_
    try dsimp only [putL, setL, evL, getL]
    refine HL_nil ?_
    refine hK243 _ _ ?_
    rcases Bool.eq_false_or_eq_true (decide ((x138.length : Int) > 120)) with hb244 | hb244
    ·replace H := iteT hb244 H
     refine HT_true (congrArg Value.bool hb244) ?_
     refine HT_seq_k ?_
     intro K245 hK245
     refine HT_region ?_
     refine HL_cons rfl ?_
     refine o_assign ?_
     try dsimp only [putL, setL, evL, getL]
     refine HL_cons rfl ?_
     refine o_assign ?_
     try dsimp only [putL, setL, evL, getL]
     refine HL_nil ?_
     refine hK245 _ _ ?_
     refine HT_ret ?_
     exact hQr _ _ [.slice none 0 0, .bool false] ⟨rfl, rfl, trivial⟩ (retH (fun r => spec_ReplaceIn.post sb s F0 r _ _) (show some _ = some r from H) ⟨none, 0, rfl, (hH.nil (K := KI) OI 3).sel [1] (by decide)⟩)
    ·replace H := iteF hb244 H
     refine HT_false (congrArg Value.bool hb244) ?_
     refine HT_skip ?_
     refine hK242 _ _ ?_
     refine HT_seq_k ?_
     intro K246 hK246
     refine HT_region ?_
     refine HL_cons rfl ?_
     refine o_move ?_
     try dsimp only [putL, setL, evL, getL]
     refine HL_cons rfl ?_
     refine o_assign ?_
     try dsimp only [putL, setL, evL, getL]
     refine HL_cons rfl ?_
     refine o_assign ?_
     try dsimp only [putL, setL, evL, getL]
     refine HL_nil ?_
     refine hK246 _ _ ?_
     refine HT_ret ?_
     exact hQr _ _ [.slice A138 x138.length c138, .bool true] ⟨rfl, rfl, trivial⟩ (retH (fun r => spec_ReplaceIn.post sb s F0 r _ _) (show some _ = some r from H) ⟨A138, c138, rfl, hH⟩)
def impl_inRange.f (p0 : Int) (p1 : Int) (p2 : Int) : Option Bool := if (decide (p1 ≤ p0)) = true then (some (decide (p0 ≤ p2))) else (some false)
def impl_inRange.post (sb s : St) (F0 : Fp) (r : Bool) : Value → St → Prop := fun v s' => v = .bool r ∧ Hp sb s F0 s' []
set_option maxRecDepth 100000 in
set_option maxHeartbeats 4000000 in
theorem impl_inRange.ok (sb s : St) (F0 : Fp) (p0 : Int) (p1 : Int) (p2 : Int) (hH : Hp sb s F0 s []) (r : Bool) (H : impl_inRange.f p0 p1 p2 = some r) : GCall Try.prog 105 #[.int .i64 p0, .int .i64 p1, .int .i64 p2] s (impl_inRange.post sb s F0 r) := by
 refine GCall_ofk [.tmp 6] [.int .i64 p0, .int .i64 p1, .int .i64 p2, undef, undef, undef, undef, undef, undef, undef, undef, undef, undef, undef, undef] Try.func105 rfl rfl rfl ?_
 intro w Q hQr hQn hQp
 replace H := topE H
 unfold impl_inRange.f at H
 refine HT_seq_k ?_
 intro K1 hK1
 refine HT_region ?_
 refine HL_cons rfl ?_
 refine o_assign ?_
 try dsimp only [putL, setL, evL, getL]
 refine HL_nil ?_
 refine hK1 _ _ ?_
 refine HT_seq_k ?_
 intro K2 hK2
 refine HT_region ?_
 refine HL_cons rfl ?_
 refine o_move ?_
 try dsimp only [putL, setL, evL, getL]
 refine HL_cons rfl ?_
 refine o_move ?_
 try dsimp only [putL, setL, evL, getL]
 refine HL_cons rfl ?_
 refine o_bin rfl rfl rfl ?_
 try dsimp only [putL, setL, evL, getL]
 refine HL_cons rfl ?_
 refine o_move ?_
 try dsimp only [putL, setL, evL, getL]
 rcases Bool.eq_false_or_eq_true (decide (p1 ≤ p0)) with hb3 | hb3
 ·replace H := iteT hb3 H
  refine HL_want ?_ ?_
  ·exact wantT (j := 3) (b := true) (t := 10) (c := decide (p1 ≤ p0)) rfl rfl rfl rfl hb3
  refine o_move ?_
  try dsimp only [putL, setL, evL, getL]
  refine HL_want ?_ ?_
  ·exact wantT (j := 3) (b := true) (t := 10) (c := decide (p1 ≤ p0)) rfl rfl rfl rfl hb3
  refine o_move ?_
  try dsimp only [putL, setL, evL, getL]
  refine HL_want ?_ ?_
  ·exact wantT (j := 3) (b := true) (t := 10) (c := decide (p1 ≤ p0)) rfl rfl rfl rfl hb3
  refine o_bin rfl rfl rfl ?_
  try dsimp only [putL, setL, evL, getL]
  refine HL_cons rfl ?_
  refine o_pickT rfl hb3 ?_
  try dsimp only [putL, setL, evL, getL]
  refine HL_cons rfl ?_
  refine o_assign ?_
  try dsimp only [putL, setL, evL, getL]
  refine HL_nil ?_
  refine hK2 _ _ ?_
  refine HT_ret ?_
  exact hQr _ _ [.bool (decide (p0 ≤ p2))] ⟨rfl, trivial⟩ (retH (fun r => impl_inRange.post sb s F0 r _ _) (show some _ = some r from H) ⟨rfl, hH⟩)
 ·replace H := iteF hb3 H
  refine HL_skip ?_ ?_
  ·exact wantF (j := 3) (b := true) (t := 10) (c := decide (p1 ≤ p0)) rfl rfl rfl rfl hb3
  try dsimp only [putL, setL, evL, getL]
  refine HL_skip ?_ ?_
  ·exact wantF (j := 3) (b := true) (t := 10) (c := decide (p1 ≤ p0)) rfl rfl rfl rfl hb3
  try dsimp only [putL, setL, evL, getL]
  refine HL_skip ?_ ?_
  ·exact wantF (j := 3) (b := true) (t := 10) (c := decide (p1 ≤ p0)) rfl rfl rfl rfl hb3
  try dsimp only [putL, setL, evL, getL]
  refine HL_cons rfl ?_
  refine o_pickF rfl hb3 ?_
  try dsimp only [putL, setL, evL, getL]
  refine HL_cons rfl ?_
  refine o_assign ?_
  try dsimp only [putL, setL, evL, getL]
  refine HL_nil ?_
  refine hK2 _ _ ?_
  refine HT_ret ?_
  exact hQr _ _ [.bool false] ⟨rfl, trivial⟩ (retH (fun r => impl_inRange.post sb s F0 r _ _) (show some _ = some r from H) ⟨rfl, hH⟩)
def impl_GoodSet.l1 (p0 : List (Int)) : Nat → Int → Option (Lo Unit Bool)
 | 0, _ => none
 | kf + 1, x300 => if (decide (x300 < (p0.length : Int))) = true then ((rd? p0 x300).bind fun u416 => ((if (decide (x300 > 0)) = true then ((rem? x300 2).bind fun u437 => some (u437 == 0)) else (some false)).bind fun (o : Bool) => match o with | x435 => (if x435 = true then ((rd? p0 (IntKind.i64.wrap (x300 - 1))).bind fun u440 => some (IntKind.i64.wrap (u440 + 2))) else (if (decide (x300 > 0)) = true then ((rd? p0 (IntKind.i64.wrap (x300 - 1))).bind fun u443 => some u443) else (some 0)))).bind fun (o : Int) => match o with | x431 => ((impl_inRange.f u416 x431 1114111).bind fun u446 => if (!u446) = true then ((some false).bind fun z => some (Lo.ret z)) else (impl_GoodSet.l1 p0 kf (IntKind.i64.wrap (x300 + 1))))) else (some (Lo.go ()))
def impl_GoodSet.f (p0 : List (Int)) : Option Bool := (impl_GoodSet.l1 p0 ((((p0.length : Int)) - (0)).toNat + 2) 0).bind fun (o : Lo Unit Bool) => match o with | .go () => ((rem? (p0.length : Int) 2).bind fun u451 => if (u451 == 0) = true then (some (decide ((p0.length : Int) ≤ 24))) else (some false)) | .ret z => some z
def impl_GoodSet.post (sb s : St) (F0 : Fp) (r : Bool) : Value → St → Prop := fun v s' => v = .bool r ∧ Hp sb s F0 s' []
set_option maxRecDepth 100000 in
set_option maxHeartbeats 4000000 in
theorem impl_GoodSet.ok (sb s : St) (F0 : Fp) (A0p : Option Addr) (c0p : Nat) (p0 : List (Int)) (HRp0 : Rd KI sb A0p c0p p0) (hH : Hp sb s F0 s []) (r : Bool) (H : impl_GoodSet.f p0 = some r) : GCall Try.prog 192 #[.slice A0p p0.length c0p] s (impl_GoodSet.post sb s F0 r) := by
 refine GCall_ofk [.tmp 2] [.slice A0p p0.length c0p, undef, undef, undef, undef, undef, undef, undef, undef, undef, undef, undef, undef, undef, undef, undef, undef, undef, undef, undef, undef, undef, undef, undef, undef, undef, undef, undef, undef, undef, undef, undef, undef, undef, undef, undef, undef, undef, undef, undef, undef, undef, undef, undef, undef, undef, undef, undef, undef] Try.func192 rfl rfl rfl ?_
 intro w Q hQr hQn hQp
 replace H := topE H
 unfold impl_GoodSet.f at H
 refine HT_seq_k ?_
 intro K1 hK1
 refine HT_region ?_
 refine HL_cons rfl ?_
 refine o_assign ?_
 try dsimp only [putL, setL, evL, getL]
 refine HL_nil ?_
 refine hK1 _ _ ?_
 refine HT_seq_k ?_
 intro K2 hK2
 refine HT_seq_k ?_
 intro K3 hK3
 refine HT_region ?_
 refine HL_cons rfl ?_
 refine o_move ?_
 try dsimp only [putL, setL, evL, getL]
 refine HL_cons rfl ?_
 refine o_len rfl Try.underlying24 ?_
 try dsimp only [putL, setL, evL, getL]
 refine HL_cons rfl ?_
 refine o_move ?_
 try dsimp only [putL, setL, evL, getL]
 refine HL_nil ?_
 refine hK3 _ _ ?_
 refine joinH H fun G4 hG4 H => ?_
 refine HT_toK (fun l' s' => G4 (.go ()) = some r ∧ l' = [.slice A0p p0.length c0p, undef, getL l' 2, getL l' 3, getL l' 4, getL l' 5, .slice A0p p0.length c0p, .int .i64 (p0.length : Int), getL l' 8, getL l' 9, getL l' 10, getL l' 11, getL l' 12, getL l' 13, getL l' 14, getL l' 15, getL l' 16, getL l' 17, getL l' 18, getL l' 19, getL l' 20, getL l' 21, getL l' 22, getL l' 23, getL l' 24, getL l' 25, getL l' 26, getL l' 27, getL l' 28, getL l' 29, getL l' 30, getL l' 31, getL l' 32, getL l' 33, getL l' 34, getL l' 35, getL l' 36, getL l' 37, getL l' 38, getL l' 39, undef, undef, undef, undef, undef, undef, undef, undef, undef] ∧ Hp sb s F0 s' []) ?_ ?_
 ·intro K4 hK4
  refine HT_block ?_
  refine HT_loopK (fun kf l' s' => ∃ (x300 : Int), (impl_GoodSet.l1 p0 kf x300).bind G4 = some r ∧ l' = [.slice A0p p0.length c0p, undef, getL l' 2, getL l' 3, getL l' 4, getL l' 5, .slice A0p p0.length c0p, .int .i64 (p0.length : Int), .int .i64 x300, getL l' 9, getL l' 10, getL l' 11, getL l' 12, getL l' 13, getL l' 14, getL l' 15, getL l' 16, getL l' 17, getL l' 18, getL l' 19, getL l' 20, getL l' 21, getL l' 22, getL l' 23, getL l' 24, getL l' 25, getL l' 26, getL l' 27, getL l' 28, getL l' 29, getL l' 30, getL l' 31, getL l' 32, getL l' 33, getL l' 34, getL l' 35, getL l' 36, getL l' 37, getL l' 38, getL l' 39, undef, undef, undef, undef, undef, undef, undef, undef, undef] ∧ Hp sb s F0 s' []) ((((p0.length : Int)) - (0)).toNat + 2) ⟨0, H, rfl, hH⟩ ?_
  rintro kf l' s375 ⟨x300, H, hl, hH⟩ K375 hK375
  generalize getL l' 2 = j2, getL l' 3 = j3, getL l' 4 = j4, getL l' 5 = j5, getL l' 9 = j9, getL l' 10 = j10, getL l' 11 = j11, getL l' 12 = j12, getL l' 13 = j13, getL l' 14 = j14, getL l' 15 = j15, getL l' 16 = j16, getL l' 17 = j17, getL l' 18 = j18, getL l' 19 = j19, getL l' 20 = j20, getL l' 21 = j21, getL l' 22 = j22, getL l' 23 = j23, getL l' 24 = j24, getL l' 25 = j25, getL l' 26 = j26, getL l' 27 = j27, getL l' 28 = j28, getL l' 29 = j29, getL l' 30 = j30, getL l' 31 = j31, getL l' 32 = j32, getL l' 33 = j33, getL l' 34 = j34, getL l' 35 = j35, getL l' 36 = j36, getL l' 37 = j37, getL l' 38 = j38, getL l' 39 = j39 at hl
  subst hl
  cases kf with
  | zero => simp [impl_GoodSet.l1] at H
  | succ kf =>
   rw [impl_GoodSet.l1] at H
   refine HT_seq_k ?_
   intro K376 hK376
   refine HT_region ?_
   refine HL_cons rfl ?_
   refine o_bin rfl rfl rfl ?_
   try dsimp only [putL, setL, evL, getL]
   refine HL_nil ?_
   refine hK376 _ _ ?_
   refine HT_seq_k ?_
   intro K377 hK377
   rcases Bool.eq_false_or_eq_true (decide (x300 < (p0.length : Int))) with hb378 | hb378
   ·replace H := iteT hb378 H
    refine HT_true (congrArg Value.bool hb378) ?_
    refine HT_skip ?_
    refine hK377 _ _ ?_
    refine HT_seq_k ?_
    intro K414 hK414
    refine HT_block ?_
    refine HT_seq_k ?_
    intro K415 hK415
    refine HT_region ?_
    refine HL_cons rfl ?_
    refine o_move ?_
    try dsimp only [putL, setL, evL, getL]
    replace H := headE H
    obtain ⟨u416, hu416, H⟩ := H
    obtain ⟨b416, o416, cs416, hr416, hh416, hel416⟩ := Rd.elb HRp0 hu416
    obtain rfl := hr416
    refine HL_cons rfl ?_
    refine hel416 s375 rfl rfl Try.underlying24 tI3 ?_
    try dsimp only [putL, setL, evL, getL]
    refine HL_cons rfl ?_
    refine o_load' rfl Try.underlying3 rfl ((hh416 hH.bs.mono) 0 _ rfl) ?_
    try dsimp only [putL, setL, evL, getL]
    refine HL_cons rfl ?_
    refine o_assign ?_
    try dsimp only [putL, setL, evL, getL]
    refine HL_cons rfl ?_
    refine o_assign ?_
    try dsimp only [putL, setL, evL, getL]
    refine HL_nil ?_
    refine hK415 _ _ ?_
    refine HT_seq_k ?_
    intro K417 hK417
    refine HT_region ?_
    refine HL_cons rfl ?_
    refine o_assign ?_
    try dsimp only [putL, setL, evL, getL]
    refine HL_nil ?_
    refine hK417 _ _ ?_
    refine joinH H fun G418 hG418 H => ?_
    refine HT_joinK (fun l' s' => ∃ (x431 : Int), G418 x431 = some r ∧ l' = [.slice A0p p0.length c0p, undef, j2, .int .i64 x300, .int .i64 u416, .int .i64 x431, .slice A0p p0.length c0p, .int .i64 (p0.length : Int), .int .i64 x300, .bool (decide (x300 < (p0.length : Int))), .int .i64 x300, .pointer (some ⟨b416, o416, none⟩), .int .i64 u416, getL l' 13, getL l' 14, getL l' 15, getL l' 16, getL l' 17, getL l' 18, getL l' 19, getL l' 20, getL l' 21, getL l' 22, getL l' 23, getL l' 24, getL l' 25, getL l' 26, getL l' 27, getL l' 28, getL l' 29, getL l' 30, getL l' 31, getL l' 32, getL l' 33, getL l' 34, j35, j36, j37, j38, j39, undef, undef, undef, undef, undef, undef, undef, undef, undef] ∧ Hp sb s F0 s' []) ?_ ?_
    ·intro K418 hK418
     refine HT_block ?_
     refine joinH H fun G432 hG432 H => ?_
     refine HT_joinK (fun l' s' => ∃ (x435 : Bool), G432 x435 = some r ∧ l' = [.slice A0p p0.length c0p, undef, j2, .int .i64 x300, .int .i64 u416, .int .i64 0, .slice A0p p0.length c0p, .int .i64 (p0.length : Int), .int .i64 x300, .bool (decide (x300 < (p0.length : Int))), .int .i64 x300, .pointer (some ⟨b416, o416, none⟩), .int .i64 u416, .bool x435, getL l' 14, getL l' 15, getL l' 16, getL l' 17, getL l' 18, getL l' 19, getL l' 20, j21, j22, j23, j24, j25, j26, j27, j28, j29, j30, j31, j32, j33, j34, j35, j36, j37, j38, j39, undef, undef, undef, undef, undef, undef, undef, undef, undef] ∧ Hp sb s F0 s' []) ?_ ?_
     ·intro K432 hK432
      refine HT_region ?_
      refine HL_cons rfl ?_
      refine o_move ?_
      try dsimp only [putL, setL, evL, getL]
      refine HL_cons rfl ?_
      refine o_bin rfl rfl rfl ?_
      try dsimp only [putL, setL, evL, getL]
      refine HL_cons rfl ?_
      refine o_move ?_
      try dsimp only [putL, setL, evL, getL]
      rcases Bool.eq_false_or_eq_true (decide (x300 > 0)) with hb436 | hb436
      ·replace H := iteT hb436 H
       refine HL_want ?_ ?_
       ·exact wantT (j := 2) (b := true) (t := 16) (c := decide (x300 > 0)) rfl rfl rfl rfl hb436
       refine o_move ?_
       try dsimp only [putL, setL, evL, getL]
       replace H := headE H
       obtain ⟨u437, hu437, H⟩ := H
       refine HL_want ?_ ?_
       ·exact wantT (j := 2) (b := true) (t := 16) (c := decide (x300 > 0)) rfl rfl rfl rfl hb436
       refine o_rem' rfl rfl hu437 ?_
       try dsimp only [putL, setL, evL, getL]
       refine HL_want ?_ ?_
       ·exact wantT (j := 2) (b := true) (t := 16) (c := decide (x300 > 0)) rfl rfl rfl rfl hb436
       refine o_bin rfl rfl rfl ?_
       try dsimp only [putL, setL, evL, getL]
       refine HL_cons rfl ?_
       refine o_pickT rfl hb436 ?_
       try dsimp only [putL, setL, evL, getL]
       refine HL_cons rfl ?_
       refine o_assign ?_
       try dsimp only [putL, setL, evL, getL]
       refine HL_nil ?_
       exact hK432 _ _ ⟨u437 == 0, H, rfl, hH⟩
      ·replace H := iteF hb436 H
       refine HL_skip ?_ ?_
       ·exact wantF (j := 2) (b := true) (t := 16) (c := decide (x300 > 0)) rfl rfl rfl rfl hb436
       try dsimp only [putL, setL, evL, getL]
       refine HL_skip ?_ ?_
       ·exact wantF (j := 2) (b := true) (t := 16) (c := decide (x300 > 0)) rfl rfl rfl rfl hb436
       try dsimp only [putL, setL, evL, getL]
       refine HL_skip ?_ ?_
       ·exact wantF (j := 2) (b := true) (t := 16) (c := decide (x300 > 0)) rfl rfl rfl rfl hb436
       try dsimp only [putL, setL, evL, getL]
       refine HL_cons rfl ?_
       refine o_pickF rfl hb436 ?_
       try dsimp only [putL, setL, evL, getL]
       refine HL_cons rfl ?_
       refine o_assign ?_
       try dsimp only [putL, setL, evL, getL]
       refine HL_nil ?_
       exact hK432 _ _ ⟨false, H, rfl, hH⟩
     ·rintro l' s438 ⟨x435, H, hl, hH⟩
      generalize getL l' 14 = j14, getL l' 15 = j15, getL l' 16 = j16, getL l' 17 = j17, getL l' 18 = j18, getL l' 19 = j19, getL l' 20 = j20 at hl
      subst hl
      replace H := hG432 _ H
      try dsimp only at H
      rcases Bool.eq_false_or_eq_true x435 with hb439 | hb439
      ·replace H := iteT hb439 H
       refine HT_true (congrArg Value.bool hb439) ?_
       refine HT_region ?_
       refine HL_cons rfl ?_
       refine o_move ?_
       try dsimp only [putL, setL, evL, getL]
       refine HL_cons rfl ?_
       refine o_move ?_
       try dsimp only [putL, setL, evL, getL]
       refine HL_cons rfl ?_
       refine o_bin rfl rfl rfl ?_
       try dsimp only [putL, setL, evL, getL]
       replace H := headE H
       obtain ⟨u440, hu440, H⟩ := H
       obtain ⟨b440, o440, cs440, hr440, hh440, hel440⟩ := Rd.elb HRp0 hu440
       obtain rfl := hr440
       refine HL_cons rfl ?_
       refine hel440 s438 rfl rfl Try.underlying24 tI3 ?_
       try dsimp only [putL, setL, evL, getL]
       refine HL_cons rfl ?_
       refine o_load' rfl Try.underlying3 rfl ((hh440 hH.bs.mono) 0 _ rfl) ?_
       try dsimp only [putL, setL, evL, getL]
       refine HL_cons rfl ?_
       refine o_bin rfl rfl rfl ?_
       try dsimp only [putL, setL, evL, getL]
       refine HL_cons rfl ?_
       refine o_assign ?_
       try dsimp only [putL, setL, evL, getL]
       refine HL_nil ?_
       exact hK418 _ _ ⟨IntKind.i64.wrap (u440 + 2), H, rfl, hH⟩
      ·replace H := iteF hb439 H
       refine HT_false (congrArg Value.bool hb439) ?_
       refine HT_seq_k ?_
       intro K441 hK441
       refine HT_region ?_
       refine HL_cons rfl ?_
       refine o_move ?_
       try dsimp only [putL, setL, evL, getL]
       refine HL_cons rfl ?_
       refine o_bin rfl rfl rfl ?_
       try dsimp only [putL, setL, evL, getL]
       refine HL_cons rfl ?_
       refine o_assign ?_
       try dsimp only [putL, setL, evL, getL]
       refine HL_nil ?_
       refine hK441 _ _ ?_
       rcases Bool.eq_false_or_eq_true (decide (x300 > 0)) with hb442 | hb442
       ·replace H := iteT hb442 H
        refine HT_true (congrArg Value.bool hb442) ?_
        refine HT_region ?_
        refine HL_cons rfl ?_
        refine o_move ?_
        try dsimp only [putL, setL, evL, getL]
        refine HL_cons rfl ?_
        refine o_move ?_
        try dsimp only [putL, setL, evL, getL]
        refine HL_cons rfl ?_
        refine o_bin rfl rfl rfl ?_
        try dsimp only [putL, setL, evL, getL]
        replace H := headE H
        obtain ⟨u443, hu443, H⟩ := H
        obtain ⟨b443, o443, cs443, hr443, hh443, hel443⟩ := Rd.elb HRp0 hu443
        obtain rfl := hr443
        refine HL_cons rfl ?_
        refine hel443 s438 rfl rfl Try.underlying24 tI3 ?_
        try dsimp only [putL, setL, evL, getL]
        refine HL_cons rfl ?_
        refine o_load' rfl Try.underlying3 rfl ((hh443 hH.bs.mono) 0 _ rfl) ?_
        try dsimp only [putL, setL, evL, getL]
        refine HL_cons rfl ?_
        refine o_assign ?_
        try dsimp only [putL, setL, evL, getL]
        refine HL_nil ?_
        exact hK418 _ _ ⟨u443, H, rfl, hH⟩
       ·replace H := iteF hb442 H
        refine HT_false (congrArg Value.bool hb442) ?_
        refine HT_skip ?_
        exact hK418 _ _ ⟨0, H, rfl, hH⟩
    ·rintro l' s444 ⟨x431, H, hl, hH⟩
     generalize getL l' 13 = j13, getL l' 14 = j14, getL l' 15 = j15, getL l' 16 = j16, getL l' 17 = j17, getL l' 18 = j18, getL l' 19 = j19, getL l' 20 = j20, getL l' 21 = j21, getL l' 22 = j22, getL l' 23 = j23, getL l' 24 = j24, getL l' 25 = j25, getL l' 26 = j26, getL l' 27 = j27, getL l' 28 = j28, getL l' 29 = j29, getL l' 30 = j30, getL l' 31 = j31, getL l' 32 = j32, getL l' 33 = j33, getL l' 34 = j34 at hl
     subst hl
     replace H := hG418 _ H
     try dsimp only at H
     refine HT_seq_k ?_
     intro K445 hK445
     refine HT_region ?_
     refine HL_cons rfl ?_
     refine o_move ?_
     try dsimp only [putL, setL, evL, getL]
     refine HL_cons rfl ?_
     refine o_move ?_
     try dsimp only [putL, setL, evL, getL]
     replace H := headE H
     obtain ⟨u446, hu446, H⟩ := H
     refine HL_cons rfl ?_
     refine o_call (args := #[.int .i64 u416, .int .i64 x431, .int .i64 1114111]) Try.func105 rfl rfl rfl (impl_inRange.ok sb s444 no u416 x431 1114111 (Hp.own hH.bs) _ hu446) ?_
     rintro _ s446 ⟨rfl, hD⟩
     replace hH := hH.back0 hD (Up.refl _ _ _)
     clear hD
     dsimp only [addC, setC, rmC, selC, getC] at hH
     try dsimp only [putL, setL, evL, getL]
     refine HL_cons rfl ?_
     refine o_not rfl ?_
     try dsimp only [putL, setL, evL, getL]
     refine HL_nil ?_
     refine hK445 _ _ ?_
     rcases Bool.eq_false_or_eq_true (!u446) with hb447 | hb447
     ·replace H := iteT hb447 H
      refine HT_true (congrArg Value.bool hb447) ?_
      refine HT_seq_k ?_
      intro K448 hK448
      refine HT_region ?_
      refine HL_cons rfl ?_
      refine o_assign ?_
      try dsimp only [putL, setL, evL, getL]
      refine HL_nil ?_
      refine hK448 _ _ ?_
      refine HT_ret ?_
      replace H := escH (fun z hz => hG4 _ hz) H
      exact hQr _ _ [.bool false] ⟨rfl, trivial⟩ (retH (fun r => impl_GoodSet.post sb s F0 r _ _) (show some _ = some r from H) ⟨rfl, hH⟩)
     ·replace H := iteF hb447 H
      refine HT_false (congrArg Value.bool hb447) ?_
      refine HT_skip ?_
      refine hK414 _ _ ?_
      refine HT_region ?_
      refine HL_cons rfl ?_
      refine o_bin rfl rfl rfl ?_
      try dsimp only [putL, setL, evL, getL]
      refine HL_cons rfl ?_
      refine o_move ?_
      try dsimp only [putL, setL, evL, getL]
      refine HL_nil ?_
      exact hK375 _ _ ⟨kf, Nat.lt_succ_self kf, IntKind.i64.wrap (x300 + 1), H, rfl, hH⟩
   ·replace H := iteF hb378 H
    refine HT_false (congrArg Value.bool hb378) ?_
    refine HT_exit ?_
    exact hK4 _ _ ⟨H, rfl, hH⟩
 ·rintro l' s449 ⟨H, hl, hH⟩
  generalize getL l' 2 = j2, getL l' 3 = j3, getL l' 4 = j4, getL l' 5 = j5, getL l' 8 = j8, getL l' 9 = j9, getL l' 10 = j10, getL l' 11 = j11, getL l' 12 = j12, getL l' 13 = j13, getL l' 14 = j14, getL l' 15 = j15, getL l' 16 = j16, getL l' 17 = j17, getL l' 18 = j18, getL l' 19 = j19, getL l' 20 = j20, getL l' 21 = j21, getL l' 22 = j22, getL l' 23 = j23, getL l' 24 = j24, getL l' 25 = j25, getL l' 26 = j26, getL l' 27 = j27, getL l' 28 = j28, getL l' 29 = j29, getL l' 30 = j30, getL l' 31 = j31, getL l' 32 = j32, getL l' 33 = j33, getL l' 34 = j34, getL l' 35 = j35, getL l' 36 = j36, getL l' 37 = j37, getL l' 38 = j38, getL l' 39 = j39 at hl
  subst hl
  replace H := hG4 _ H
  try dsimp only at H
  refine hK2 _ _ ?_
  refine HT_seq_k ?_
  intro K450 hK450
  refine HT_region ?_
  refine HL_cons rfl ?_
  refine o_move ?_
  try dsimp only [putL, setL, evL, getL]
  refine HL_cons rfl ?_
  refine o_len rfl Try.underlying24 ?_
  try dsimp only [putL, setL, evL, getL]
  replace H := headE H
  obtain ⟨u451, hu451, H⟩ := H
  refine HL_cons rfl ?_
  refine o_rem' rfl rfl hu451 ?_
  try dsimp only [putL, setL, evL, getL]
  refine HL_cons rfl ?_
  refine o_bin rfl rfl rfl ?_
  try dsimp only [putL, setL, evL, getL]
  refine HL_cons rfl ?_
  refine o_move ?_
  try dsimp only [putL, setL, evL, getL]
  rcases Bool.eq_false_or_eq_true (u451 == 0) with hb452 | hb452
  ·replace H := iteT hb452 H
   refine HL_want ?_ ?_
   ·exact wantT (j := 4) (b := true) (t := 44) (c := u451 == 0) rfl rfl rfl rfl hb452
   refine o_move ?_
   try dsimp only [putL, setL, evL, getL]
   refine HL_want ?_ ?_
   ·exact wantT (j := 4) (b := true) (t := 44) (c := u451 == 0) rfl rfl rfl rfl hb452
   refine o_len rfl Try.underlying24 ?_
   try dsimp only [putL, setL, evL, getL]
   refine HL_want ?_ ?_
   ·exact wantT (j := 4) (b := true) (t := 44) (c := u451 == 0) rfl rfl rfl rfl hb452
   refine o_bin rfl rfl rfl ?_
   try dsimp only [putL, setL, evL, getL]
   refine HL_cons rfl ?_
   refine o_pickT rfl hb452 ?_
   try dsimp only [putL, setL, evL, getL]
   refine HL_cons rfl ?_
   refine o_assign ?_
   try dsimp only [putL, setL, evL, getL]
   refine HL_nil ?_
   refine hK450 _ _ ?_
   refine HT_ret ?_
   exact hQr _ _ [.bool (decide ((p0.length : Int) ≤ 24))] ⟨rfl, trivial⟩ (retH (fun r => impl_GoodSet.post sb s F0 r _ _) (show some _ = some r from H) ⟨rfl, hH⟩)
  ·replace H := iteF hb452 H
   refine HL_skip ?_ ?_
   ·exact wantF (j := 4) (b := true) (t := 44) (c := u451 == 0) rfl rfl rfl rfl hb452
   try dsimp only [putL, setL, evL, getL]
   refine HL_skip ?_ ?_
   ·exact wantF (j := 4) (b := true) (t := 44) (c := u451 == 0) rfl rfl rfl rfl hb452
   try dsimp only [putL, setL, evL, getL]
   refine HL_skip ?_ ?_
   ·exact wantF (j := 4) (b := true) (t := 44) (c := u451 == 0) rfl rfl rfl rfl hb452
   try dsimp only [putL, setL, evL, getL]
   refine HL_cons rfl ?_
   refine o_pickF rfl hb452 ?_
   try dsimp only [putL, setL, evL, getL]
   refine HL_cons rfl ?_
   refine o_assign ?_
   try dsimp only [putL, setL, evL, getL]
   refine HL_nil ?_
   refine hK450 _ _ ?_
   refine HT_ret ?_
   exact hQr _ _ [.bool false] ⟨rfl, trivial⟩ (retH (fun r => impl_GoodSet.post sb s F0 r _ _) (show some _ = some r from H) ⟨rfl, hH⟩)
def impl_GoodRune.f (p0 : Int) : Option Bool := (impl_inRange.f p0 0 1114111).bind fun u3 => if u3 = true then ((impl_inRange.f p0 55296 57343).bind fun u5 => some (!u5)) else (some false)
def impl_GoodRune.post (sb s : St) (F0 : Fp) (r : Bool) : Value → St → Prop := fun v s' => v = .bool r ∧ Hp sb s F0 s' []
set_option maxRecDepth 100000 in
set_option maxHeartbeats 4000000 in
theorem impl_GoodRune.ok (sb s : St) (F0 : Fp) (p0 : Int) (hH : Hp sb s F0 s []) (r : Bool) (H : impl_GoodRune.f p0 = some r) : GCall Try.prog 146 #[.int .i64 p0] s (impl_GoodRune.post sb s F0 r) := by
 refine GCall_ofk [.tmp 2] [.int .i64 p0, undef, undef, undef, undef, undef, undef, undef, undef, undef] Try.func146 rfl rfl rfl ?_
 intro w Q hQr hQn hQp
 replace H := topE H
 unfold impl_GoodRune.f at H
 refine HT_seq_k ?_
 intro K1 hK1
 refine HT_region ?_
 refine HL_cons rfl ?_
 refine o_assign ?_
 try dsimp only [putL, setL, evL, getL]
 refine HL_nil ?_
 refine hK1 _ _ ?_
 refine HT_seq_k ?_
 intro K2 hK2
 refine HT_region ?_
 refine HL_cons rfl ?_
 refine o_move ?_
 try dsimp only [putL, setL, evL, getL]
 replace H := headE H
 obtain ⟨u3, hu3, H⟩ := H
 refine HL_cons rfl ?_
 refine o_call (args := #[.int .i64 p0, .int .i64 0, .int .i64 1114111]) Try.func105 rfl rfl rfl (impl_inRange.ok sb s no p0 0 1114111 (Hp.own hH.bs) _ hu3) ?_
 rintro _ s3 ⟨rfl, hD⟩
 replace hH := hH.back0 hD (Up.refl _ _ _)
 clear hD
 dsimp only [addC, setC, rmC, selC, getC] at hH
 try dsimp only [putL, setL, evL, getL]
 refine HL_cons rfl ?_
 refine o_move ?_
 try dsimp only [putL, setL, evL, getL]
 rcases Bool.eq_false_or_eq_true u3 with hb4 | hb4
 ·replace H := iteT hb4 H
  refine HL_want ?_ ?_
  ·exact wantT (j := 2) (b := true) (t := 5) (c := u3) rfl rfl rfl rfl hb4
  refine o_move ?_
  try dsimp only [putL, setL, evL, getL]
  replace H := headE H
  obtain ⟨u5, hu5, H⟩ := H
  refine HL_want ?_ ?_
  ·exact wantT (j := 2) (b := true) (t := 5) (c := u3) rfl rfl rfl rfl hb4
  refine o_call (args := #[.int .i64 p0, .int .i64 55296, .int .i64 57343]) Try.func105 rfl rfl rfl (impl_inRange.ok sb s3 no p0 55296 57343 (Hp.own hH.bs) _ hu5) ?_
  rintro _ s5 ⟨rfl, hD⟩
  replace hH := hH.back0 hD (Up.refl _ _ _)
  clear hD
  dsimp only [addC, setC, rmC, selC, getC] at hH
  try dsimp only [putL, setL, evL, getL]
  refine HL_want ?_ ?_
  ·exact wantT (j := 2) (b := true) (t := 5) (c := u3) rfl rfl rfl rfl hb4
  refine o_not rfl ?_
  try dsimp only [putL, setL, evL, getL]
  refine HL_cons rfl ?_
  refine o_pickT rfl hb4 ?_
  try dsimp only [putL, setL, evL, getL]
  refine HL_cons rfl ?_
  refine o_assign ?_
  try dsimp only [putL, setL, evL, getL]
  refine HL_nil ?_
  refine hK2 _ _ ?_
  refine HT_ret ?_
  exact hQr _ _ [.bool (!u5)] ⟨rfl, trivial⟩ (retH (fun r => impl_GoodRune.post sb s F0 r _ _) (show some _ = some r from H) ⟨rfl, hH⟩)
 ·replace H := iteF hb4 H
  refine HL_skip ?_ ?_
  ·exact wantF (j := 2) (b := true) (t := 5) (c := u3) rfl rfl rfl rfl hb4
  try dsimp only [putL, setL, evL, getL]
  refine HL_skip ?_ ?_
  ·exact wantF (j := 2) (b := true) (t := 5) (c := u3) rfl rfl rfl rfl hb4
  try dsimp only [putL, setL, evL, getL]
  refine HL_skip ?_ ?_
  ·exact wantF (j := 2) (b := true) (t := 5) (c := u3) rfl rfl rfl rfl hb4
  try dsimp only [putL, setL, evL, getL]
  refine HL_cons rfl ?_
  refine o_pickF rfl hb4 ?_
  try dsimp only [putL, setL, evL, getL]
  refine HL_cons rfl ?_
  refine o_assign ?_
  try dsimp only [putL, setL, evL, getL]
  refine HL_nil ?_
  refine hK2 _ _ ?_
  refine HT_ret ?_
  exact hQr _ _ [.bool false] ⟨rfl, trivial⟩ (retH (fun r => impl_GoodRune.post sb s F0 r _ _) (show some _ = some r from H) ⟨rfl, hH⟩)
def impl_GoodRe_1_1.f (p0 : Int) : Option Bool := (impl_GoodRune.f p0).bind fun u3 => some (!u3)
def impl_GoodRe_1_1.post (sb s : St) (F0 : Fp) (r : Bool) : Value → St → Prop := fun v s' => v = .bool r ∧ Hp sb s F0 s' []
set_option maxRecDepth 100000 in
set_option maxHeartbeats 4000000 in
theorem impl_GoodRe_1_1.ok (sb s : St) (F0 : Fp) (p0 : Int) (hH : Hp sb s F0 s []) (r : Bool) (H : impl_GoodRe_1_1.f p0 = some r) : GCall Try.prog 193 #[.int .i64 p0] s (impl_GoodRe_1_1.post sb s F0 r) := by
 refine GCall_ofk [.tmp 2] [.int .i64 p0, undef, undef, undef, undef, undef] Try.func193 rfl rfl rfl ?_
 intro w Q hQr hQn hQp
 replace H := topE H
 unfold impl_GoodRe_1_1.f at H
 refine HT_seq_k ?_
 intro K1 hK1
 refine HT_region ?_
 refine HL_cons rfl ?_
 refine o_assign ?_
 try dsimp only [putL, setL, evL, getL]
 refine HL_nil ?_
 refine hK1 _ _ ?_
 refine HT_seq_k ?_
 intro K2 hK2
 refine HT_region ?_
 refine HL_cons rfl ?_
 refine o_move ?_
 try dsimp only [putL, setL, evL, getL]
 replace H := headE H
 obtain ⟨u3, hu3, H⟩ := H
 refine HL_cons rfl ?_
 refine o_call (args := #[.int .i64 p0]) Try.func146 rfl rfl rfl (impl_GoodRune.ok sb s no p0 (Hp.own hH.bs) _ hu3) ?_
 rintro _ s3 ⟨rfl, hD⟩
 replace hH := hH.back0 hD (Up.refl _ _ _)
 clear hD
 dsimp only [addC, setC, rmC, selC, getC] at hH
 try dsimp only [putL, setL, evL, getL]
 refine HL_cons rfl ?_
 refine o_not rfl ?_
 try dsimp only [putL, setL, evL, getL]
 refine HL_cons rfl ?_
 refine o_assign ?_
 try dsimp only [putL, setL, evL, getL]
 refine HL_nil ?_
 refine hK2 _ _ ?_
 refine HT_ret ?_
 exact hQr _ _ [.bool (!u3)] ⟨rfl, trivial⟩ (retH (fun r => impl_GoodRe_1_1.post sb s F0 r _ _) (show some _ = some r from H) ⟨rfl, hH⟩)
def slices_IndexFunc_int_int_impl_GoodRe_1_1.l1 (p0 : List (Int)) : Nat → Int → Option (Lo Unit Int)
 | 0, _ => none
 | kf + 1, x48 => if (decide (x48 < (p0.length : Int))) = true then ((rd? p0 x48).bind fun u67 => (impl_GoodRe_1_1.f u67).bind fun u68 => if u68 = true then ((some x48).bind fun z => some (Lo.ret z)) else (slices_IndexFunc_int_int_impl_GoodRe_1_1.l1 p0 kf (IntKind.i64.wrap (x48 + 1)))) else (some (Lo.go ()))
def slices_IndexFunc_int_int_impl_GoodRe_1_1.f (p0 : List (Int)) : Option Int := (slices_IndexFunc_int_int_impl_GoodRe_1_1.l1 p0 ((((p0.length : Int)) - (0)).toNat + 2) 0).bind fun (o : Lo Unit Int) => match o with | .go () => (some (-1)) | .ret z => some z
def slices_IndexFunc_int_int_impl_GoodRe_1_1.post (sb s : St) (F0 : Fp) (r : Int) : Value → St → Prop := fun v s' => v = .int .i64 r ∧ Hp sb s F0 s' []
set_option maxRecDepth 100000 in
set_option maxHeartbeats 4000000 in
theorem slices_IndexFunc_int_int_impl_GoodRe_1_1.ok (sb s : St) (F0 : Fp) (A0p : Option Addr) (c0p : Nat) (p0 : List (Int)) (HRp0 : Rd KI sb A0p c0p p0) (hH : Hp sb s F0 s []) (r : Int) (H : slices_IndexFunc_int_int_impl_GoodRe_1_1.f p0 = some r) : GCall Try.prog 184 #[.slice A0p p0.length c0p, .func (.func 193) #[] #[]] s (slices_IndexFunc_int_int_impl_GoodRe_1_1.post sb s F0 r) := by
 refine GCall_ofk [.tmp 4] [.slice A0p p0.length c0p, .func (.func 193) #[] #[], undef, undef, undef, undef, undef, undef, undef, undef, undef, undef, undef, undef, undef, undef, undef, undef, undef] Try.func184 rfl rfl rfl ?_
 intro w Q hQr hQn hQp
 replace H := topE H
 unfold slices_IndexFunc_int_int_impl_GoodRe_1_1.f at H
 refine HT_seq_k ?_
 intro K1 hK1
 refine HT_region ?_
 refine HL_cons rfl ?_
 refine o_assign ?_
 try dsimp only [putL, setL, evL, getL]
 refine HL_nil ?_
 refine hK1 _ _ ?_
 refine HT_seq_k ?_
 intro K2 hK2
 refine HT_seq_k ?_
 intro K3 hK3
 refine HT_region ?_
 refine HL_cons rfl ?_
 refine o_move ?_
 try dsimp only [putL, setL, evL, getL]
 refine HL_cons rfl ?_
 refine o_len rfl Try.underlying24 ?_
 try dsimp only [putL, setL, evL, getL]
 refine HL_cons rfl ?_
 refine o_move ?_
 try dsimp only [putL, setL, evL, getL]
 refine HL_nil ?_
 refine hK3 _ _ ?_
 refine joinH H fun G4 hG4 H => ?_
 refine HT_toK (fun l' s' => G4 (.go ()) = some r ∧ l' = [.slice A0p p0.length c0p, .func (.func 193) #[] #[], undef, undef, getL l' 4, getL l' 5, .slice A0p p0.length c0p, .int .i64 (p0.length : Int), getL l' 8, getL l' 9, getL l' 10, getL l' 11, getL l' 12, getL l' 13, getL l' 14, getL l' 15, getL l' 16, getL l' 17, getL l' 18] ∧ Hp sb s F0 s' []) ?_ ?_
 ·intro K4 hK4
  refine HT_block ?_
  refine HT_loopK (fun kf l' s' => ∃ (x48 : Int), (slices_IndexFunc_int_int_impl_GoodRe_1_1.l1 p0 kf x48).bind G4 = some r ∧ l' = [.slice A0p p0.length c0p, .func (.func 193) #[] #[], undef, undef, getL l' 4, getL l' 5, .slice A0p p0.length c0p, .int .i64 (p0.length : Int), .int .i64 x48, getL l' 9, getL l' 10, getL l' 11, getL l' 12, getL l' 13, getL l' 14, getL l' 15, getL l' 16, getL l' 17, getL l' 18] ∧ Hp sb s F0 s' []) ((((p0.length : Int)) - (0)).toNat + 2) ⟨0, H, rfl, hH⟩ ?_
  rintro kf l' s60 ⟨x48, H, hl, hH⟩ K60 hK60
  generalize getL l' 4 = j4, getL l' 5 = j5, getL l' 9 = j9, getL l' 10 = j10, getL l' 11 = j11, getL l' 12 = j12, getL l' 13 = j13, getL l' 14 = j14, getL l' 15 = j15, getL l' 16 = j16, getL l' 17 = j17, getL l' 18 = j18 at hl
  subst hl
  cases kf with
  | zero => simp [slices_IndexFunc_int_int_impl_GoodRe_1_1.l1] at H
  | succ kf =>
   rw [slices_IndexFunc_int_int_impl_GoodRe_1_1.l1] at H
   refine HT_seq_k ?_
   intro K61 hK61
   refine HT_region ?_
   refine HL_cons rfl ?_
   refine o_bin rfl rfl rfl ?_
   try dsimp only [putL, setL, evL, getL]
   refine HL_nil ?_
   refine hK61 _ _ ?_
   refine HT_seq_k ?_
   intro K62 hK62
   rcases Bool.eq_false_or_eq_true (decide (x48 < (p0.length : Int))) with hb63 | hb63
   ·replace H := iteT hb63 H
    refine HT_true (congrArg Value.bool hb63) ?_
    refine HT_skip ?_
    refine hK62 _ _ ?_
    refine HT_seq_k ?_
    intro K64 hK64
    refine HT_block ?_
    refine HT_seq_k ?_
    intro K65 hK65
    refine HT_region ?_
    refine HL_cons rfl ?_
    refine o_move ?_
    try dsimp only [putL, setL, evL, getL]
    refine HL_cons rfl ?_
    refine o_assign ?_
    try dsimp only [putL, setL, evL, getL]
    refine HL_nil ?_
    refine hK65 _ _ ?_
    refine HT_seq_k ?_
    intro K66 hK66
    refine HT_region ?_
    refine HL_cons rfl ?_
    refine o_move ?_
    try dsimp only [putL, setL, evL, getL]
    refine HL_cons rfl ?_
    refine o_move ?_
    try dsimp only [putL, setL, evL, getL]
    refine HL_cons rfl ?_
    refine o_move ?_
    try dsimp only [putL, setL, evL, getL]
    replace H := headE H
    obtain ⟨u67, hu67, H⟩ := H
    obtain ⟨b67, o67, cs67, hr67, hh67, hel67⟩ := Rd.elb HRp0 hu67
    obtain rfl := hr67
    refine HL_cons rfl ?_
    refine hel67 s60 rfl rfl Try.underlying24 tI3 ?_
    try dsimp only [putL, setL, evL, getL]
    refine HL_cons rfl ?_
    refine o_load' rfl Try.underlying3 rfl ((hh67 hH.bs.mono) 0 _ rfl) ?_
    try dsimp only [putL, setL, evL, getL]
    replace H := headE H
    obtain ⟨u68, hu68, H⟩ := H
    refine HL_cons rfl ?_
    refine o_callv (first := #[]) (cap := #[]) (args := #[.int .i64 u67]) rfl Try.func193 rfl rfl [.int .i64 u67] rfl (by simp) (impl_GoodRe_1_1.ok sb s60 no u67 (Hp.own hH.bs) _ hu68) ?_
    rintro _ s68 ⟨rfl, hD⟩
    replace hH := hH.back0 hD (Up.refl _ _ _)
    clear hD
    dsimp only [addC, setC, rmC, selC, getC] at hH
    try dsimp only [putL, setL, evL, getL]
    refine HL_nil ?_
    refine hK66 _ _ ?_
    rcases Bool.eq_false_or_eq_true u68 with hb69 | hb69
    ·replace H := iteT hb69 H
     refine HT_true (congrArg Value.bool hb69) ?_
     refine HT_seq_k ?_
     intro K70 hK70
     refine HT_region ?_
     refine HL_cons rfl ?_
     refine o_move ?_
     try dsimp only [putL, setL, evL, getL]
     refine HL_cons rfl ?_
     refine o_assign ?_
     try dsimp only [putL, setL, evL, getL]
     refine HL_nil ?_
     refine hK70 _ _ ?_
     refine HT_ret ?_
     replace H := escH (fun z hz => hG4 _ hz) H
     exact hQr _ _ [.int .i64 x48] ⟨rfl, trivial⟩ (retH (fun r => slices_IndexFunc_int_int_impl_GoodRe_1_1.post sb s F0 r _ _) (show some _ = some r from H) ⟨rfl, hH⟩)
    ·replace H := iteF hb69 H
     refine HT_false (congrArg Value.bool hb69) ?_
     refine HT_skip ?_
     refine hK64 _ _ ?_
     refine HT_region ?_
     refine HL_cons rfl ?_
     refine o_bin rfl rfl rfl ?_
     try dsimp only [putL, setL, evL, getL]
     refine HL_cons rfl ?_
     refine o_move ?_
     try dsimp only [putL, setL, evL, getL]
     refine HL_nil ?_
     exact hK60 _ _ ⟨kf, Nat.lt_succ_self kf, IntKind.i64.wrap (x48 + 1), H, rfl, hH⟩
   ·replace H := iteF hb63 H
    refine HT_false (congrArg Value.bool hb63) ?_
    refine HT_exit ?_
    exact hK4 _ _ ⟨H, rfl, hH⟩
 ·rintro l' s71 ⟨H, hl, hH⟩
  generalize getL l' 4 = j4, getL l' 5 = j5, getL l' 8 = j8, getL l' 9 = j9, getL l' 10 = j10, getL l' 11 = j11, getL l' 12 = j12, getL l' 13 = j13, getL l' 14 = j14, getL l' 15 = j15, getL l' 16 = j16, getL l' 17 = j17, getL l' 18 = j18 at hl
  subst hl
  replace H := hG4 _ H
  try dsimp only at H
  refine hK2 _ _ ?_
  refine HT_seq_k ?_
  intro K72 hK72
  refine HT_region ?_
  refine HL_cons rfl ?_
  refine o_assign ?_
  try dsimp only [putL, setL, evL, getL]
  refine HL_nil ?_
  refine hK72 _ _ ?_
  refine HT_ret ?_
  exact hQr _ _ [.int .i64 (-1)] ⟨rfl, trivial⟩ (retH (fun r => slices_IndexFunc_int_int_impl_GoodRe_1_1.post sb s F0 r _ _) (show some _ = some r from H) ⟨rfl, hH⟩)
def slices_ContainsFunc_int_int_impl_GoodRe_1_1.f (p0 : List (Int)) : Option Bool := (slices_IndexFunc_int_int_impl_GoodRe_1_1.f p0).bind fun u3 => some (decide (u3 ≥ 0))
def slices_ContainsFunc_int_int_impl_GoodRe_1_1.post (sb s : St) (F0 : Fp) (r : Bool) : Value → St → Prop := fun v s' => v = .bool r ∧ Hp sb s F0 s' []
set_option maxRecDepth 100000 in
set_option maxHeartbeats 4000000 in
theorem slices_ContainsFunc_int_int_impl_GoodRe_1_1.ok (sb s : St) (F0 : Fp) (A0p : Option Addr) (c0p : Nat) (p0 : List (Int)) (HRp0 : Rd KI sb A0p c0p p0) (hH : Hp sb s F0 s []) (r : Bool) (H : slices_ContainsFunc_int_int_impl_GoodRe_1_1.f p0 = some r) : GCall Try.prog 114 #[.slice A0p p0.length c0p, .func (.func 193) #[] #[]] s (slices_ContainsFunc_int_int_impl_GoodRe_1_1.post sb s F0 r) := by
 refine GCall_ofk [.tmp 4] [.slice A0p p0.length c0p, .func (.func 193) #[] #[], undef, undef, undef, undef, undef, undef, undef] Try.func114 rfl rfl rfl ?_
 intro w Q hQr hQn hQp
 replace H := topE H
 unfold slices_ContainsFunc_int_int_impl_GoodRe_1_1.f at H
 refine HT_seq_k ?_
 intro K1 hK1
 refine HT_region ?_
 refine HL_cons rfl ?_
 refine o_assign ?_
 try dsimp only [putL, setL, evL, getL]
 refine HL_nil ?_
 refine hK1 _ _ ?_
 refine HT_seq_k ?_
 intro K2 hK2
 refine HT_region ?_
 refine HL_cons rfl ?_
 refine o_move ?_
 try dsimp only [putL, setL, evL, getL]
 refine HL_cons rfl ?_
 refine o_move ?_
 try dsimp only [putL, setL, evL, getL]
 replace H := headE H
 obtain ⟨u3, hu3, H⟩ := H
 refine HL_cons rfl ?_
 refine o_call (args := #[.slice A0p p0.length c0p, .func (.func 193) #[] #[]]) Try.func184 rfl rfl rfl (slices_IndexFunc_int_int_impl_GoodRe_1_1.ok sb s no A0p c0p p0 HRp0 (Hp.own hH.bs) _ hu3) ?_
 rintro _ s3 ⟨rfl, hD⟩
 replace hH := hH.back0 hD (Up.refl _ _ _)
 clear hD
 dsimp only [addC, setC, rmC, selC, getC] at hH
 try dsimp only [putL, setL, evL, getL]
 refine HL_cons rfl ?_
 refine o_bin rfl rfl rfl ?_
 try dsimp only [putL, setL, evL, getL]
 refine HL_cons rfl ?_
 refine o_assign ?_
 try dsimp only [putL, setL, evL, getL]
 refine HL_nil ?_
 refine hK2 _ _ ?_
 refine HT_ret ?_
 exact hQr _ _ [.bool (decide (u3 ≥ 0))] ⟨rfl, trivial⟩ (retH (fun r => slices_ContainsFunc_int_int_impl_GoodRe_1_1.post sb s F0 r _ _) (show some _ = some r from H) ⟨rfl, hH⟩)
def impl_GoodRe_1.f (p0_0 : Int) (p0_1 : List (Int)) : Option Bool := (impl_GoodSet.f p0_1).bind fun u4 => if (!u4) = true then (some true) else ((slices_ContainsFunc_int_int_impl_GoodRe_1_1.f p0_1).bind fun u6 => if u6 = true then (some true) else (if (p0_0 != 2) = true then (some (decide ((p0_1.length : Int) > 0))) else (some false)))
def impl_GoodRe_1.post (sb s : St) (F0 : Fp) (r : Bool) : Value → St → Prop := fun v s' => v = .bool r ∧ Hp sb s F0 s' []
set_option maxRecDepth 100000 in
set_option maxHeartbeats 4000000 in
theorem impl_GoodRe_1.ok (sb s : St) (F0 : Fp) (p0_0 : Int) (A0_1p : Option Addr) (c0_1p : Nat) (p0_1 : List (Int)) (HRp0_1 : Rd KI sb A0_1p c0_1p p0_1) (hH : Hp sb s F0 s []) (r : Bool) (H : impl_GoodRe_1.f p0_0 p0_1 = some r) : GCall Try.prog 191 #[.agg #[.int .i64 p0_0, .slice A0_1p p0_1.length c0_1p]] s (impl_GoodRe_1.post sb s F0 r) := by
 refine GCall_ofk [.tmp 2] [.agg #[.int .i64 p0_0, .slice A0_1p p0_1.length c0_1p], undef, undef, undef, undef, undef, undef, undef, undef, undef, undef, undef, undef, undef, undef, undef, undef, undef, undef, undef, undef, undef, undef] Try.func191 rfl rfl rfl ?_
 intro w Q hQr hQn hQp
 replace H := topE H
 unfold impl_GoodRe_1.f at H
 refine HT_seq_k ?_
 intro K1 hK1
 refine HT_region ?_
 refine HL_cons rfl ?_
 refine o_boxH hH rfl ?_
 intro b2 s2 hH' hG
 replace hH : Hp sb s F0 s2 [Ck.ov b2 [.int .i64 p0_0, .slice A0_1p p0_1.length c0_1p] 139] := hH'
 clear hH' hG
 try dsimp only [putL, setL, evL, getL]
 refine HL_cons rfl ?_
 refine o_assign ?_
 try dsimp only [putL, setL, evL, getL]
 refine HL_nil ?_
 refine hK1 _ _ ?_
 refine HT_seq_k ?_
 intro K3 hK3
 refine HT_region ?_
 refine HL_cons rfl ?_
 refine o_faddr' (ft := 24) (off := 1) rfl Try.underlying139 rfl tI24 (by decide) ?_
 try dsimp only [putL, setL, evL, getL]
 refine HL_cons rfl ?_
 refine o_load' rfl Try.underlying24 rfl (hH.hasv 0 rfl rfl) ?_
 try dsimp only [putL, setL, evL, getL]
 replace H := headE H
 obtain ⟨u4, hu4, H⟩ := H
 refine HL_cons rfl ?_
 refine o_call (args := #[.slice A0_1p p0_1.length c0_1p]) Try.func192 rfl rfl rfl (impl_GoodSet.ok sb s2 no A0_1p c0_1p p0_1 HRp0_1 (Hp.own hH.bs) _ hu4) ?_
 rintro _ s4 ⟨rfl, hD⟩
 replace hH := hH.back0 hD (Up.refl _ _ _)
 clear hD
 dsimp only [addC, setC, rmC, selC, getC] at hH
 try dsimp only [putL, setL, evL, getL]
 refine HL_cons rfl ?_
 refine o_not rfl ?_
 try dsimp only [putL, setL, evL, getL]
 refine HL_cons rfl ?_
 refine o_move ?_
 try dsimp only [putL, setL, evL, getL]
 rcases Bool.eq_false_or_eq_true (!u4) with hb5 | hb5
 ·replace H := iteT hb5 H
  refine HL_skip ?_ ?_
  ·exact wantF (j := 4) (b := false) (t := 7) (c := !u4) rfl rfl rfl rfl hb5
  try dsimp only [putL, setL, evL, getL]
  refine HL_skip ?_ ?_
  ·exact wantF (j := 4) (b := false) (t := 7) (c := !u4) rfl rfl rfl rfl hb5
  try dsimp only [putL, setL, evL, getL]
  refine HL_skip ?_ ?_
  ·exact wantF (j := 4) (b := false) (t := 7) (c := !u4) rfl rfl rfl rfl hb5
  try dsimp only [putL, setL, evL, getL]
  refine HL_cons rfl ?_
  refine o_pickT rfl hb5 ?_
  try dsimp only [putL, setL, evL, getL]
  refine HL_cons rfl ?_
  refine o_move ?_
  try dsimp only [putL, setL, evL, getL]
  refine HL_skip ?_ ?_
  ·exact wantF (j := 9) (b := false) (t := 12) (c := true) rfl rfl rfl rfl rfl
  try dsimp only [putL, setL, evL, getL]
  refine HL_skip ?_ ?_
  ·exact wantF (j := 9) (b := false) (t := 12) (c := true) rfl rfl rfl rfl rfl
  try dsimp only [putL, setL, evL, getL]
  refine HL_skip ?_ ?_
  ·exact wantF (j := 9) (b := false) (t := 12) (c := true) rfl rfl rfl rfl rfl
  try dsimp only [putL, setL, evL, getL]
  refine HL_skip ?_ ?_
  ·exact wantF (j := 9) (b := false) (t := 12) (c := true) rfl rfl rfl rfl rfl
  try dsimp only [putL, setL, evL, getL]
  refine HL_skip ?_ ?_
  ·exact wantU (j := 13) (b := true) (t := 16) rfl rfl rfl rfl
  try dsimp only [putL, setL, evL, getL]
  refine HL_skip ?_ ?_
  ·exact wantU (j := 13) (b := true) (t := 16) rfl rfl rfl rfl
  try dsimp only [putL, setL, evL, getL]
  refine HL_skip ?_ ?_
  ·exact wantU (j := 13) (b := true) (t := 16) rfl rfl rfl rfl
  try dsimp only [putL, setL, evL, getL]
  refine HL_skip ?_ ?_
  ·exact wantU (j := 13) (b := true) (t := 16) rfl rfl rfl rfl
  try dsimp only [putL, setL, evL, getL]
  refine HL_skip ?_ ?_
  ·exact wantF (j := 9) (b := false) (t := 12) (c := true) rfl rfl rfl rfl rfl
  try dsimp only [putL, setL, evL, getL]
  refine HL_cons rfl ?_
  refine o_pickT rfl rfl ?_
  try dsimp only [putL, setL, evL, getL]
  refine HL_cons rfl ?_
  refine o_assign ?_
  try dsimp only [putL, setL, evL, getL]
  refine HL_nil ?_
  refine hK3 _ _ ?_
  refine HT_ret ?_
  exact hQr _ _ [.bool true] ⟨rfl, trivial⟩ (retH (fun r => impl_GoodRe_1.post sb s F0 r _ _) (show some _ = some r from H) ⟨rfl, hH.sel [] (by decide)⟩)
 ·replace H := iteF hb5 H
  refine HL_want ?_ ?_
  ·exact wantT (j := 4) (b := false) (t := 7) (c := !u4) rfl rfl rfl rfl hb5
  refine o_faddr' (ft := 24) (off := 1) rfl Try.underlying139 rfl tI24 (by decide) ?_
  try dsimp only [putL, setL, evL, getL]
  refine HL_want ?_ ?_
  ·exact wantT (j := 4) (b := false) (t := 7) (c := !u4) rfl rfl rfl rfl hb5
  refine o_load' rfl Try.underlying24 rfl (hH.hasv 0 rfl rfl) ?_
  try dsimp only [putL, setL, evL, getL]
  replace H := headE H
  obtain ⟨u6, hu6, H⟩ := H
  refine HL_want ?_ ?_
  ·exact wantT (j := 4) (b := false) (t := 7) (c := !u4) rfl rfl rfl rfl hb5
  refine o_call (args := #[.slice A0_1p p0_1.length c0_1p, .func (.func 193) #[] #[]]) Try.func114 rfl rfl rfl (slices_ContainsFunc_int_int_impl_GoodRe_1_1.ok sb s4 no A0_1p c0_1p p0_1 HRp0_1 (Hp.own hH.bs) _ hu6) ?_
  rintro _ s6 ⟨rfl, hD⟩
  replace hH := hH.back0 hD (Up.refl _ _ _)
  clear hD
  dsimp only [addC, setC, rmC, selC, getC] at hH
  try dsimp only [putL, setL, evL, getL]
  refine HL_cons rfl ?_
  refine o_pickF rfl hb5 ?_
  try dsimp only [putL, setL, evL, getL]
  refine HL_cons rfl ?_
  refine o_move ?_
  try dsimp only [putL, setL, evL, getL]
  rcases Bool.eq_false_or_eq_true u6 with hb7 | hb7
  ·replace H := iteT hb7 H
   refine HL_skip ?_ ?_
   ·exact wantF (j := 9) (b := false) (t := 12) (c := u6) rfl rfl rfl rfl hb7
   try dsimp only [putL, setL, evL, getL]
   refine HL_skip ?_ ?_
   ·exact wantF (j := 9) (b := false) (t := 12) (c := u6) rfl rfl rfl rfl hb7
   try dsimp only [putL, setL, evL, getL]
   refine HL_skip ?_ ?_
   ·exact wantF (j := 9) (b := false) (t := 12) (c := u6) rfl rfl rfl rfl hb7
   try dsimp only [putL, setL, evL, getL]
   refine HL_skip ?_ ?_
   ·exact wantF (j := 9) (b := false) (t := 12) (c := u6) rfl rfl rfl rfl hb7
   try dsimp only [putL, setL, evL, getL]
   refine HL_skip ?_ ?_
   ·exact wantU (j := 13) (b := true) (t := 16) rfl rfl rfl rfl
   try dsimp only [putL, setL, evL, getL]
   refine HL_skip ?_ ?_
   ·exact wantU (j := 13) (b := true) (t := 16) rfl rfl rfl rfl
   try dsimp only [putL, setL, evL, getL]
   refine HL_skip ?_ ?_
   ·exact wantU (j := 13) (b := true) (t := 16) rfl rfl rfl rfl
   try dsimp only [putL, setL, evL, getL]
   refine HL_skip ?_ ?_
   ·exact wantU (j := 13) (b := true) (t := 16) rfl rfl rfl rfl
   try dsimp only [putL, setL, evL, getL]
   refine HL_skip ?_ ?_
   ·exact wantF (j := 9) (b := false) (t := 12) (c := u6) rfl rfl rfl rfl hb7
   try dsimp only [putL, setL, evL, getL]
   refine HL_cons rfl ?_
   refine o_pickT rfl hb7 ?_
   try dsimp only [putL, setL, evL, getL]
   refine HL_cons rfl ?_
   refine o_assign ?_
   try dsimp only [putL, setL, evL, getL]
   refine HL_nil ?_
   refine hK3 _ _ ?_
   refine HT_ret ?_
   exact hQr _ _ [.bool true] ⟨rfl, trivial⟩ (retH (fun r => impl_GoodRe_1.post sb s F0 r _ _) (show some _ = some r from H) ⟨rfl, hH.sel [] (by decide)⟩)
  ·replace H := iteF hb7 H
   refine HL_want ?_ ?_
   ·exact wantT (j := 9) (b := false) (t := 12) (c := u6) rfl rfl rfl rfl hb7
   refine o_faddr' (ft := 3) (off := 0) rfl Try.underlying139 rfl tI3 (by decide) ?_
   try dsimp only [putL, setL, evL, getL]
   refine HL_want ?_ ?_
   ·exact wantT (j := 9) (b := false) (t := 12) (c := u6) rfl rfl rfl rfl hb7
   refine o_load' rfl Try.underlying3 rfl (hH.hasv 0 rfl rfl) ?_
   try dsimp only [putL, setL, evL, getL]
   refine HL_want ?_ ?_
   ·exact wantT (j := 9) (b := false) (t := 12) (c := u6) rfl rfl rfl rfl hb7
   refine o_bin rfl rfl rfl ?_
   try dsimp only [putL, setL, evL, getL]
   refine HL_want ?_ ?_
   ·exact wantT (j := 9) (b := false) (t := 12) (c := u6) rfl rfl rfl rfl hb7
   refine o_move ?_
   try dsimp only [putL, setL, evL, getL]
   rcases Bool.eq_false_or_eq_true (p0_0 != 2) with hb8 | hb8
   ·replace H := iteT hb8 H
    refine HL_want ?_ ?_
    ·exact wantT (j := 13) (b := true) (t := 16) (c := p0_0 != 2) rfl rfl rfl rfl hb8
    refine o_faddr' (ft := 24) (off := 1) rfl Try.underlying139 rfl tI24 (by decide) ?_
    try dsimp only [putL, setL, evL, getL]
    refine HL_want ?_ ?_
    ·exact wantT (j := 13) (b := true) (t := 16) (c := p0_0 != 2) rfl rfl rfl rfl hb8
    refine o_load' rfl Try.underlying24 rfl (hH.hasv 0 rfl rfl) ?_
    try dsimp only [putL, setL, evL, getL]
    refine HL_want ?_ ?_
    ·exact wantT (j := 13) (b := true) (t := 16) (c := p0_0 != 2) rfl rfl rfl rfl hb8
    refine o_len rfl Try.underlying24 ?_
    try dsimp only [putL, setL, evL, getL]
    refine HL_want ?_ ?_
    ·exact wantT (j := 13) (b := true) (t := 16) (c := p0_0 != 2) rfl rfl rfl rfl hb8
    refine o_bin rfl rfl rfl ?_
    try dsimp only [putL, setL, evL, getL]
    refine HL_want ?_ ?_
    ·exact wantT (j := 9) (b := false) (t := 12) (c := u6) rfl rfl rfl rfl hb7
    refine o_pickT rfl hb8 ?_
    try dsimp only [putL, setL, evL, getL]
    refine HL_cons rfl ?_
    refine o_pickF rfl hb7 ?_
    try dsimp only [putL, setL, evL, getL]
    refine HL_cons rfl ?_
    refine o_assign ?_
    try dsimp only [putL, setL, evL, getL]
    refine HL_nil ?_
    refine hK3 _ _ ?_
    refine HT_ret ?_
    exact hQr _ _ [.bool (decide ((p0_1.length : Int) > 0))] ⟨rfl, trivial⟩ (retH (fun r => impl_GoodRe_1.post sb s F0 r _ _) (show some _ = some r from H) ⟨rfl, hH.sel [] (by decide)⟩)
   ·replace H := iteF hb8 H
    refine HL_skip ?_ ?_
    ·exact wantF (j := 13) (b := true) (t := 16) (c := p0_0 != 2) rfl rfl rfl rfl hb8
    try dsimp only [putL, setL, evL, getL]
    refine HL_skip ?_ ?_
    ·exact wantF (j := 13) (b := true) (t := 16) (c := p0_0 != 2) rfl rfl rfl rfl hb8
    try dsimp only [putL, setL, evL, getL]
    refine HL_skip ?_ ?_
    ·exact wantF (j := 13) (b := true) (t := 16) (c := p0_0 != 2) rfl rfl rfl rfl hb8
    try dsimp only [putL, setL, evL, getL]
    refine HL_skip ?_ ?_
    ·exact wantF (j := 13) (b := true) (t := 16) (c := p0_0 != 2) rfl rfl rfl rfl hb8
    try dsimp only [putL, setL, evL, getL]
    refine HL_want ?_ ?_
    ·exact wantT (j := 9) (b := false) (t := 12) (c := u6) rfl rfl rfl rfl hb7
    refine o_pickF rfl hb8 ?_
    try dsimp only [putL, setL, evL, getL]
    refine HL_cons rfl ?_
    refine o_pickF rfl hb7 ?_
    try dsimp only [putL, setL, evL, getL]
    refine HL_cons rfl ?_
    refine o_assign ?_
    try dsimp only [putL, setL, evL, getL]
    refine HL_nil ?_
    refine hK3 _ _ ?_
    refine HT_ret ?_
    exact hQr _ _ [.bool false] ⟨rfl, trivial⟩ (retH (fun r => impl_GoodRe_1.post sb s F0 r _ _) (show some _ = some r from H) ⟨rfl, hH.sel [] (by decide)⟩)
def slices_IndexFunc_impl_Re_impl_Re_impl_GoodRe_1.l1 (p0 : List ((Int) × (List (Int)))) : Nat → Int → Option (Lo Unit Int)
 | 0, _ => none
 | kf + 1, x52 => if (decide (x52 < (p0.length : Int))) = true then ((rd? p0 x52).bind fun u72 => (impl_GoodRe_1.f u72.1 u72.2).bind fun u74 => if u74 = true then ((some x52).bind fun z => some (Lo.ret z)) else (slices_IndexFunc_impl_Re_impl_Re_impl_GoodRe_1.l1 p0 kf (IntKind.i64.wrap (x52 + 1)))) else (some (Lo.go ()))
def slices_IndexFunc_impl_Re_impl_Re_impl_GoodRe_1.f (p0 : List ((Int) × (List (Int)))) : Option Int := (slices_IndexFunc_impl_Re_impl_Re_impl_GoodRe_1.l1 p0 ((((p0.length : Int)) - (0)).toNat + 2) 0).bind fun (o : Lo Unit Int) => match o with | .go () => (some (-1)) | .ret z => some z
def slices_IndexFunc_impl_Re_impl_Re_impl_GoodRe_1.post (sb s : St) (F0 : Fp) (r : Int) : Value → St → Prop := fun v s' => v = .int .i64 r ∧ Hp sb s F0 s' []
set_option maxRecDepth 100000 in
set_option maxHeartbeats 4000000 in
theorem slices_IndexFunc_impl_Re_impl_Re_impl_GoodRe_1.ok (sb s : St) (F0 : Fp) (A0p : Option Addr) (c0p : Nat) (p0 : List ((Int) × (List (Int)))) (HRp0 : Rd KS139 sb A0p c0p p0) (hH : Hp sb s F0 s []) (r : Int) (H : slices_IndexFunc_impl_Re_impl_Re_impl_GoodRe_1.f p0 = some r) : GCall Try.prog 221 #[.slice A0p p0.length c0p, .func (.func 191) #[] #[]] s (slices_IndexFunc_impl_Re_impl_Re_impl_GoodRe_1.post sb s F0 r) := by
 refine GCall_ofk [.tmp 4] [.slice A0p p0.length c0p, .func (.func 191) #[] #[], undef, undef, undef, undef, undef, undef, undef, undef, undef, undef, undef, undef, undef, undef, undef, undef, undef] Try.func221 rfl rfl rfl ?_
 intro w Q hQr hQn hQp
 replace H := topE H
 unfold slices_IndexFunc_impl_Re_impl_Re_impl_GoodRe_1.f at H
 refine HT_seq_k ?_
 intro K1 hK1
 refine HT_region ?_
 refine HL_cons rfl ?_
 refine o_assign ?_
 try dsimp only [putL, setL, evL, getL]
 refine HL_nil ?_
 refine hK1 _ _ ?_
 refine HT_seq_k ?_
 intro K2 hK2
 refine HT_seq_k ?_
 intro K3 hK3
 refine HT_region ?_
 refine HL_cons rfl ?_
 refine o_move ?_
 try dsimp only [putL, setL, evL, getL]
 refine HL_cons rfl ?_
 refine o_len rfl Try.underlying57 ?_
 try dsimp only [putL, setL, evL, getL]
 refine HL_cons rfl ?_
 refine o_move ?_
 try dsimp only [putL, setL, evL, getL]
 refine HL_nil ?_
 refine hK3 _ _ ?_
 refine joinH H fun G4 hG4 H => ?_
 refine HT_toK (fun l' s' => G4 (.go ()) = some r ∧ l' = [.slice A0p p0.length c0p, .func (.func 191) #[] #[], undef, undef, getL l' 4, getL l' 5, .slice A0p p0.length c0p, .int .i64 (p0.length : Int), getL l' 8, getL l' 9, getL l' 10, getL l' 11, getL l' 12, getL l' 13, getL l' 14, getL l' 15, getL l' 16, getL l' 17, getL l' 18] ∧ Hp sb s F0 s' []) ?_ ?_
 ·intro K4 hK4
  refine HT_block ?_
  refine HT_loopK (fun kf l' s' => ∃ (x52 : Int), (slices_IndexFunc_impl_Re_impl_Re_impl_GoodRe_1.l1 p0 kf x52).bind G4 = some r ∧ l' = [.slice A0p p0.length c0p, .func (.func 191) #[] #[], undef, undef, getL l' 4, getL l' 5, .slice A0p p0.length c0p, .int .i64 (p0.length : Int), .int .i64 x52, getL l' 9, getL l' 10, getL l' 11, getL l' 12, getL l' 13, getL l' 14, getL l' 15, getL l' 16, getL l' 17, getL l' 18] ∧ Hp sb s F0 s' []) ((((p0.length : Int)) - (0)).toNat + 2) ⟨0, H, rfl, hH⟩ ?_
  rintro kf l' s65 ⟨x52, H, hl, hH⟩ K65 hK65
  generalize getL l' 4 = j4, getL l' 5 = j5, getL l' 9 = j9, getL l' 10 = j10, getL l' 11 = j11, getL l' 12 = j12, getL l' 13 = j13, getL l' 14 = j14, getL l' 15 = j15, getL l' 16 = j16, getL l' 17 = j17, getL l' 18 = j18 at hl
  subst hl
  cases kf with
  | zero => simp [slices_IndexFunc_impl_Re_impl_Re_impl_GoodRe_1.l1] at H
  | succ kf =>
   rw [slices_IndexFunc_impl_Re_impl_Re_impl_GoodRe_1.l1] at H
   refine HT_seq_k ?_
   intro K66 hK66
   refine HT_region ?_
   refine HL_cons rfl ?_
   refine o_bin rfl rfl rfl ?_
   try dsimp only [putL, setL, evL, getL]
   refine HL_nil ?_
   refine hK66 _ _ ?_
   refine HT_seq_k ?_
   intro K67 hK67
   rcases Bool.eq_false_or_eq_true (decide (x52 < (p0.length : Int))) with hb68 | hb68
   ·replace H := iteT hb68 H
    refine HT_true (congrArg Value.bool hb68) ?_
    refine HT_skip ?_
    refine hK67 _ _ ?_
    refine HT_seq_k ?_
    intro K69 hK69
    refine HT_block ?_
    refine HT_seq_k ?_
    intro K70 hK70
    refine HT_region ?_
    refine HL_cons rfl ?_
    refine o_move ?_
    try dsimp only [putL, setL, evL, getL]
    refine HL_cons rfl ?_
    refine o_assign ?_
    try dsimp only [putL, setL, evL, getL]
    refine HL_nil ?_
    refine hK70 _ _ ?_
    refine HT_seq_k ?_
    intro K71 hK71
    refine HT_region ?_
    refine HL_cons rfl ?_
    refine o_move ?_
    try dsimp only [putL, setL, evL, getL]
    refine HL_cons rfl ?_
    refine o_move ?_
    try dsimp only [putL, setL, evL, getL]
    refine HL_cons rfl ?_
    refine o_move ?_
    try dsimp only [putL, setL, evL, getL]
    replace H := headE H
    obtain ⟨u72, hu72, H⟩ := H
    obtain ⟨b72, o72, cs72, hr72, hh72, hel72⟩ := Rd.elb HRp0 hu72
    obtain ⟨_, _, rfl, rfl, ⟨A73, c73, rfl, D73⟩⟩ := hr72
    refine HL_cons rfl ?_
    refine hel72 s65 rfl rfl Try.underlying57 tI139 ?_
    try dsimp only [putL, setL, evL, getL]
    refine HL_cons rfl ?_
    refine o_loads' [.int .i64 u72.1, .slice A73 u72.2.length c73] rfl Try.underlying139 rfl tI139 rfl (fun j v hj => (hh72 hH.bs.mono) j v hj) ?_
    try dsimp only [putL, setL, evL, getL]
    replace H := headE H
    obtain ⟨u74, hu74, H⟩ := H
    refine HL_cons rfl ?_
    refine o_callv (first := #[]) (cap := #[]) (args := #[.agg #[.int .i64 u72.1, .slice A73 u72.2.length c73]]) rfl Try.func191 rfl rfl [.agg #[.int .i64 u72.1, .slice A73 u72.2.length c73]] rfl (by simp) (impl_GoodRe_1.ok sb s65 no u72.1 A73 c73 u72.2 D73 (Hp.own hH.bs) _ hu74) ?_
    rintro _ s74 ⟨rfl, hD⟩
    replace hH := hH.back0 hD (Up.refl _ _ _)
    clear hD
    dsimp only [addC, setC, rmC, selC, getC] at hH
    try dsimp only [putL, setL, evL, getL]
    refine HL_nil ?_
    refine hK71 _ _ ?_
    rcases Bool.eq_false_or_eq_true u74 with hb75 | hb75
    ·replace H := iteT hb75 H
     refine HT_true (congrArg Value.bool hb75) ?_
     refine HT_seq_k ?_
     intro K76 hK76
     refine HT_region ?_
     refine HL_cons rfl ?_
     refine o_move ?_
     try dsimp only [putL, setL, evL, getL]
     refine HL_cons rfl ?_
     refine o_assign ?_
     try dsimp only [putL, setL, evL, getL]
     refine HL_nil ?_
     refine hK76 _ _ ?_
     refine HT_ret ?_
     replace H := escH (fun z hz => hG4 _ hz) H
     exact hQr _ _ [.int .i64 x52] ⟨rfl, trivial⟩ (retH (fun r => slices_IndexFunc_impl_Re_impl_Re_impl_GoodRe_1.post sb s F0 r _ _) (show some _ = some r from H) ⟨rfl, hH⟩)
    ·replace H := iteF hb75 H
     refine HT_false (congrArg Value.bool hb75) ?_
     refine HT_skip ?_
     refine hK69 _ _ ?_
     refine HT_region ?_
     refine HL_cons rfl ?_
     refine o_bin rfl rfl rfl ?_
     try dsimp only [putL, setL, evL, getL]
     refine HL_cons rfl ?_
     refine o_move ?_
     try dsimp only [putL, setL, evL, getL]
     refine HL_nil ?_
     exact hK65 _ _ ⟨kf, Nat.lt_succ_self kf, IntKind.i64.wrap (x52 + 1), H, rfl, hH⟩
   ·replace H := iteF hb68 H
    refine HT_false (congrArg Value.bool hb68) ?_
    refine HT_exit ?_
    exact hK4 _ _ ⟨H, rfl, hH⟩
 ·rintro l' s77 ⟨H, hl, hH⟩
  generalize getL l' 4 = j4, getL l' 5 = j5, getL l' 8 = j8, getL l' 9 = j9, getL l' 10 = j10, getL l' 11 = j11, getL l' 12 = j12, getL l' 13 = j13, getL l' 14 = j14, getL l' 15 = j15, getL l' 16 = j16, getL l' 17 = j17, getL l' 18 = j18 at hl
  subst hl
  replace H := hG4 _ H
  try dsimp only at H
  refine hK2 _ _ ?_
  refine HT_seq_k ?_
  intro K78 hK78
  refine HT_region ?_
  refine HL_cons rfl ?_
  refine o_assign ?_
  try dsimp only [putL, setL, evL, getL]
  refine HL_nil ?_
  refine hK78 _ _ ?_
  refine HT_ret ?_
  exact hQr _ _ [.int .i64 (-1)] ⟨rfl, trivial⟩ (retH (fun r => slices_IndexFunc_impl_Re_impl_Re_impl_GoodRe_1.post sb s F0 r _ _) (show some _ = some r from H) ⟨rfl, hH⟩)
def slices_ContainsFunc_impl_Re_impl_Re_impl_GoodRe_1.f (p0 : List ((Int) × (List (Int)))) : Option Bool := (slices_IndexFunc_impl_Re_impl_Re_impl_GoodRe_1.f p0).bind fun u3 => some (decide (u3 ≥ 0))
def slices_ContainsFunc_impl_Re_impl_Re_impl_GoodRe_1.post (sb s : St) (F0 : Fp) (r : Bool) : Value → St → Prop := fun v s' => v = .bool r ∧ Hp sb s F0 s' []
set_option maxRecDepth 100000 in
set_option maxHeartbeats 4000000 in
theorem slices_ContainsFunc_impl_Re_impl_Re_impl_GoodRe_1.ok (sb s : St) (F0 : Fp) (A0p : Option Addr) (c0p : Nat) (p0 : List ((Int) × (List (Int)))) (HRp0 : Rd KS139 sb A0p c0p p0) (hH : Hp sb s F0 s []) (r : Bool) (H : slices_ContainsFunc_impl_Re_impl_Re_impl_GoodRe_1.f p0 = some r) : GCall Try.prog 190 #[.slice A0p p0.length c0p, .func (.func 191) #[] #[]] s (slices_ContainsFunc_impl_Re_impl_Re_impl_GoodRe_1.post sb s F0 r) := by
 refine GCall_ofk [.tmp 4] [.slice A0p p0.length c0p, .func (.func 191) #[] #[], undef, undef, undef, undef, undef, undef, undef] Try.func190 rfl rfl rfl ?_
 intro w Q hQr hQn hQp
 replace H := topE H
 unfold slices_ContainsFunc_impl_Re_impl_Re_impl_GoodRe_1.f at H
 refine HT_seq_k ?_
 intro K1 hK1
 refine HT_region ?_
 refine HL_cons rfl ?_
 refine o_assign ?_
 try dsimp only [putL, setL, evL, getL]
 refine HL_nil ?_
 refine hK1 _ _ ?_
 refine HT_seq_k ?_
 intro K2 hK2
 refine HT_region ?_
 refine HL_cons rfl ?_
 refine o_move ?_
 try dsimp only [putL, setL, evL, getL]
 refine HL_cons rfl ?_
 refine o_move ?_
 try dsimp only [putL, setL, evL, getL]
 replace H := headE H
 obtain ⟨u3, hu3, H⟩ := H
 refine HL_cons rfl ?_
 refine o_call (args := #[.slice A0p p0.length c0p, .func (.func 191) #[] #[]]) Try.func221 rfl rfl rfl (slices_IndexFunc_impl_Re_impl_Re_impl_GoodRe_1.ok sb s no A0p c0p p0 HRp0 (Hp.own hH.bs) _ hu3) ?_
 rintro _ s3 ⟨rfl, hD⟩
 replace hH := hH.back0 hD (Up.refl _ _ _)
 clear hD
 dsimp only [addC, setC, rmC, selC, getC] at hH
 try dsimp only [putL, setL, evL, getL]
 refine HL_cons rfl ?_
 refine o_bin rfl rfl rfl ?_
 try dsimp only [putL, setL, evL, getL]
 refine HL_cons rfl ?_
 refine o_assign ?_
 try dsimp only [putL, setL, evL, getL]
 refine HL_nil ?_
 refine hK2 _ _ ?_
 refine HT_ret ?_
 exact hQr _ _ [.bool (decide (u3 ≥ 0))] ⟨rfl, trivial⟩ (retH (fun r => slices_ContainsFunc_impl_Re_impl_Re_impl_GoodRe_1.post sb s F0 r _ _) (show some _ = some r from H) ⟨rfl, hH⟩)
def impl_partsOf.f (p0 : Int) : Option Int := (if (p0 == 1) = true then (some (p0 == 1)) else (some (p0 == 2))).bind fun (o : Bool) => match o with | x40 => (if x40 = true then (some 0) else ((if (p0 == 6) = true then (some (p0 == 6)) else (some (p0 == 7))).bind fun (o : Bool) => match o with | x49 => (if x49 = true then (some 1) else ((if (p0 == 3) = true then (some (p0 == 3)) else (if (p0 == 4) = true then (some (p0 == 4)) else (some (p0 == 5)))).bind fun (o : Bool) => match o with | x60 => (if x60 = true then (some 2) else (some (-1)))))))
def impl_partsOf.post (sb s : St) (F0 : Fp) (r : Int) : Value → St → Prop := fun v s' => v = .int .i64 r ∧ Hp sb s F0 s' []
set_option maxRecDepth 100000 in
set_option maxHeartbeats 4000000 in
theorem impl_partsOf.ok (sb s : St) (F0 : Fp) (p0 : Int) (hH : Hp sb s F0 s []) (r : Int) (H : impl_partsOf.f p0 = some r) : GCall Try.prog 203 #[.int .i64 p0] s (impl_partsOf.post sb s F0 r) := by
 refine GCall_ofk [.tmp 2] [.int .i64 p0, undef, undef, undef, undef, undef, undef, undef, undef, undef, undef, undef, undef, undef] Try.func203 rfl rfl rfl ?_
 intro w Q hQr hQn hQp
 replace H := topE H
 unfold impl_partsOf.f at H
 refine HT_seq_k ?_
 intro K1 hK1
 refine HT_region ?_
 refine HL_cons rfl ?_
 refine o_assign ?_
 try dsimp only [putL, setL, evL, getL]
 refine HL_nil ?_
 refine hK1 _ _ ?_
 refine HT_seq_k ?_
 intro K35 hK35
 refine HT_seq_k ?_
 intro K36 hK36
 refine HT_region ?_
 refine HL_cons rfl ?_
 refine o_move ?_
 try dsimp only [putL, setL, evL, getL]
 refine HL_nil ?_
 refine hK36 _ _ ?_
 refine HT_block ?_
 refine joinH H fun G37 hG37 H => ?_
 refine HT_joinK (fun l' s' => ∃ (x40 : Bool), G37 x40 = some r ∧ l' = [.int .i64 p0, undef, .int .i64 0, .int .i64 p0, .bool x40, getL l' 5, getL l' 6, undef, undef, undef, undef, undef, undef, undef] ∧ Hp sb s F0 s' []) ?_ ?_
 ·intro K37 hK37
  refine HT_seq_k ?_
  intro K41 hK41
  refine HT_region ?_
  refine HL_cons rfl ?_
  refine o_bin rfl rfl rfl ?_
  try dsimp only [putL, setL, evL, getL]
  refine HL_cons rfl ?_
  refine o_assign ?_
  try dsimp only [putL, setL, evL, getL]
  refine HL_nil ?_
  refine hK41 _ _ ?_
  rcases Bool.eq_false_or_eq_true (p0 == 1) with hb42 | hb42
  ·replace H := iteT hb42 H
   refine HT_true (congrArg Value.bool hb42) ?_
   refine HT_skip ?_
   exact hK37 _ _ ⟨p0 == 1, H, rfl, hH⟩
  ·replace H := iteF hb42 H
   refine HT_false (congrArg Value.bool hb42) ?_
   refine HT_region ?_
   refine HL_cons rfl ?_
   refine o_bin rfl rfl rfl ?_
   try dsimp only [putL, setL, evL, getL]
   refine HL_cons rfl ?_
   refine o_assign ?_
   try dsimp only [putL, setL, evL, getL]
   refine HL_nil ?_
   exact hK37 _ _ ⟨p0 == 2, H, rfl, hH⟩
 ·rintro l' s43 ⟨x40, H, hl, hH⟩
  generalize getL l' 5 = j5, getL l' 6 = j6 at hl
  subst hl
  replace H := hG37 _ H
  try dsimp only at H
  rcases Bool.eq_false_or_eq_true x40 with hb44 | hb44
  ·replace H := iteT hb44 H
   refine HT_true (congrArg Value.bool hb44) ?_
   refine HT_seq_k ?_
   intro K45 hK45
   refine HT_region ?_
   refine HL_cons rfl ?_
   refine o_assign ?_
   try dsimp only [putL, setL, evL, getL]
   refine HL_nil ?_
   refine hK45 _ _ ?_
   refine HT_ret ?_
   exact hQr _ _ [.int .i64 0] ⟨rfl, trivial⟩ (retH (fun r => impl_partsOf.post sb s F0 r _ _) (show some _ = some r from H) ⟨rfl, hH⟩)
  ·replace H := iteF hb44 H
   refine HT_false (congrArg Value.bool hb44) ?_
   refine joinH H fun G46 hG46 H => ?_
   refine HT_joinK (fun l' s' => ∃ (x49 : Bool), G46 x49 = some r ∧ l' = [.int .i64 p0, undef, .int .i64 0, .int .i64 p0, .bool x40, j5, j6, .bool x49, getL l' 8, getL l' 9, undef, undef, undef, undef] ∧ Hp sb s F0 s' []) ?_ ?_
   ·intro K46 hK46
    refine HT_seq_k ?_
    intro K50 hK50
    refine HT_region ?_
    refine HL_cons rfl ?_
    refine o_bin rfl rfl rfl ?_
    try dsimp only [putL, setL, evL, getL]
    refine HL_cons rfl ?_
    refine o_assign ?_
    try dsimp only [putL, setL, evL, getL]
    refine HL_nil ?_
    refine hK50 _ _ ?_
    rcases Bool.eq_false_or_eq_true (p0 == 6) with hb51 | hb51
    ·replace H := iteT hb51 H
     refine HT_true (congrArg Value.bool hb51) ?_
     refine HT_skip ?_
     exact hK46 _ _ ⟨p0 == 6, H, rfl, hH⟩
    ·replace H := iteF hb51 H
     refine HT_false (congrArg Value.bool hb51) ?_
     refine HT_region ?_
     refine HL_cons rfl ?_
     refine o_bin rfl rfl rfl ?_
     try dsimp only [putL, setL, evL, getL]
     refine HL_cons rfl ?_
     refine o_assign ?_
     try dsimp only [putL, setL, evL, getL]
     refine HL_nil ?_
     exact hK46 _ _ ⟨p0 == 7, H, rfl, hH⟩
   ·rintro l' s52 ⟨x49, H, hl, hH⟩
    generalize getL l' 8 = j8, getL l' 9 = j9 at hl
    subst hl
    replace H := hG46 _ H
    try dsimp only at H
    rcases Bool.eq_false_or_eq_true x49 with hb53 | hb53
    ·replace H := iteT hb53 H
     refine HT_true (congrArg Value.bool hb53) ?_
     refine HT_seq_k ?_
     intro K54 hK54
     refine HT_region ?_
     refine HL_cons rfl ?_
     refine o_assign ?_
     try dsimp only [putL, setL, evL, getL]
     refine HL_nil ?_
     refine hK54 _ _ ?_
     refine HT_ret ?_
     exact hQr _ _ [.int .i64 1] ⟨rfl, trivial⟩ (retH (fun r => impl_partsOf.post sb s F0 r _ _) (show some _ = some r from H) ⟨rfl, hH⟩)
    ·replace H := iteF hb53 H
     refine HT_false (congrArg Value.bool hb53) ?_
     refine joinH H fun G55 hG55 H => ?_
     refine HT_joinK (fun l' s' => ∃ (x60 : Bool), G55 x60 = some r ∧ l' = [.int .i64 p0, undef, .int .i64 0, .int .i64 p0, .bool x40, j5, j6, .bool x49, j8, j9, .bool x60, getL l' 11, getL l' 12, getL l' 13] ∧ Hp sb s F0 s' []) ?_ ?_
     ·intro K55 hK55
      refine HT_seq_k ?_
      intro K61 hK61
      refine HT_region ?_
      refine HL_cons rfl ?_
      refine o_bin rfl rfl rfl ?_
      try dsimp only [putL, setL, evL, getL]
      refine HL_cons rfl ?_
      refine o_assign ?_
      try dsimp only [putL, setL, evL, getL]
      refine HL_nil ?_
      refine hK61 _ _ ?_
      rcases Bool.eq_false_or_eq_true (p0 == 3) with hb62 | hb62
      ·replace H := iteT hb62 H
       refine HT_true (congrArg Value.bool hb62) ?_
       refine HT_skip ?_
       exact hK55 _ _ ⟨p0 == 3, H, rfl, hH⟩
      ·replace H := iteF hb62 H
       refine HT_false (congrArg Value.bool hb62) ?_
       refine HT_seq_k ?_
       intro K63 hK63
       refine HT_region ?_
       refine HL_cons rfl ?_
       refine o_bin rfl rfl rfl ?_
       try dsimp only [putL, setL, evL, getL]
       refine HL_cons rfl ?_
       refine o_assign ?_
       try dsimp only [putL, setL, evL, getL]
       refine HL_nil ?_
       refine hK63 _ _ ?_
       rcases Bool.eq_false_or_eq_true (p0 == 4) with hb64 | hb64
       ·replace H := iteT hb64 H
        refine HT_true (congrArg Value.bool hb64) ?_
        refine HT_skip ?_
        exact hK55 _ _ ⟨p0 == 4, H, rfl, hH⟩
       ·replace H := iteF hb64 H
        refine HT_false (congrArg Value.bool hb64) ?_
        refine HT_region ?_
        refine HL_cons rfl ?_
        refine o_bin rfl rfl rfl ?_
        try dsimp only [putL, setL, evL, getL]
        refine HL_cons rfl ?_
        refine o_assign ?_
        try dsimp only [putL, setL, evL, getL]
        refine HL_nil ?_
        exact hK55 _ _ ⟨p0 == 5, H, rfl, hH⟩
     ·rintro l' s65 ⟨x60, H, hl, hH⟩
      generalize getL l' 11 = j11, getL l' 12 = j12, getL l' 13 = j13 at hl
      subst hl
      replace H := hG55 _ H
      try dsimp only at H
      rcases Bool.eq_false_or_eq_true x60 with hb66 | hb66
      ·replace H := iteT hb66 H
       refine HT_true (congrArg Value.bool hb66) ?_
       refine HT_seq_k ?_
       intro K67 hK67
       refine HT_region ?_
       refine HL_cons rfl ?_
       refine o_assign ?_
       try dsimp only [putL, setL, evL, getL]
       refine HL_nil ?_
       refine hK67 _ _ ?_
       refine HT_ret ?_
       exact hQr _ _ [.int .i64 2] ⟨rfl, trivial⟩ (retH (fun r => impl_partsOf.post sb s F0 r _ _) (show some _ = some r from H) ⟨rfl, hH⟩)
      ·replace H := iteF hb66 H
       refine HT_false (congrArg Value.bool hb66) ?_
       refine HT_skip ?_
       refine hK35 _ _ ?_
       refine HT_seq_k ?_
       intro K68 hK68
       refine HT_region ?_
       refine HL_cons rfl ?_
       refine o_assign ?_
       try dsimp only [putL, setL, evL, getL]
       refine HL_nil ?_
       refine hK68 _ _ ?_
       refine HT_ret ?_
       exact hQr _ _ [.int .i64 (-1)] ⟨rfl, trivial⟩ (retH (fun r => impl_partsOf.post sb s F0 r _ _) (show some _ = some r from H) ⟨rfl, hH⟩)
def slices_Clone_int_int.f (p0 : List (Int)) : Option (List (Int)) := app? 17592186044416 [] p0
def slices_Clone_int_int.post (sb s : St) (F0 : Fp) (r : List (Int)) : Value → St → Prop := fun v s' => ∃ (A0 : Option Addr) (c0 : Nat), v = .slice A0 r.length c0 ∧ Hp sb s F0 s' [Ck.ol OI 3 A0 c0 r]
set_option maxRecDepth 100000 in
set_option maxHeartbeats 4000000 in
theorem slices_Clone_int_int.ok (sb s : St) (F0 : Fp) (A0p : Option Addr) (c0p : Nat) (p0 : List (Int)) (HRp0 : Rd KI sb A0p c0p p0) (hH : Hp sb s F0 s []) (r : List (Int)) (H : slices_Clone_int_int.f p0 = some r) : GCall Try.prog 141 #[.slice A0p p0.length c0p] s (slices_Clone_int_int.post sb s F0 r) := by
 refine GCall_ofk [.tmp 2] [.slice A0p p0.length c0p, undef, undef, undef, undef, undef, undef, undef] Try.func141 rfl rfl rfl ?_
 intro w Q hQr hQn hQp
 unfold slices_Clone_int_int.f at H
 refine HT_seq_k ?_
 intro K1 hK1
 refine HT_region ?_
 refine HL_cons rfl ?_
 refine o_assign ?_
 refine HL_nil ?_
 refine hK1 _ _ ?_
 refine HT_seq_k ?_
 intro K2 hK2
 refine HT_seq_k ?_
 intro K3 hK3
 refine HT_region ?_
 refine HL_cons rfl ?_
 refine o_move ?_
 dsimp only [putL, setL, evL, getL]
 refine HL_cons rfl ?_
 refine o_eqN rfl rfl Try.underlying24 ?_
 dsimp only [putL, setL, evL, getL]
 refine HL_nil ?_
 refine hK3 _ _ ?_
 cases A0p with
 | none =>
  have hp : p0 = [] := by
   by_cases h : p0 = []
   ·exact h
   ·obtain ⟨b, o, hA, _⟩ := HRp0.2.2 h
    cases hA
  subst hp
  obtain ⟨_, rfl⟩ := app?_some H
  refine HT_true rfl ?_
  refine HT_seq_k ?_
  intro K4 hK4
  refine HT_region ?_
  refine HL_cons rfl ?_
  refine o_assign ?_
  dsimp only [putL, setL, evL, getL]
  refine HL_nil ?_
  refine hK4 _ _ ?_
  refine HT_ret ?_
  exact hQr _ _ [.slice none 0 0] ⟨rfl, trivial⟩ ⟨none, 0, rfl, hH.nil (K := KI) OI 3⟩
 | some a =>
  refine HT_false rfl ?_
  refine HT_skip ?_
  refine hK2 _ _ ?_
  refine HT_seq_k ?_
  intro K4 hK4
  refine HT_region ?_
  refine HL_cons rfl ?_
  refine o_lit0H (α := Int) (K := KI) (O := OI) hH Try.underlying24 tI3 ?_
  intro A1 s1 hH hG
  dsimp only [putL, setL, evL, getL]
  refine HL_cons rfl ?_
  refine o_move ?_
  dsimp only [putL, setL, evL, getL]
  refine HL_cons rfl ?_
  refine o_appF (n := 17592186044416) (A := A1) (c := 0) (xs := ([] : List (Int))) (ys := p0) (B := some a) (c2 := c0p) hH 0 rfl rfl rfl rfl Try.underlying24 tI3 rfl (by decide) (by decide) (by decide) (Src.flat (HRp0.mono hH.bs.mono)) H ?_
  intro A2 c2 s2 hH
  dsimp only [putL, setL, evL, getL]
  refine HL_cons rfl ?_
  refine o_assign ?_
  dsimp only [putL, setL, evL, getL]
  refine HL_nil ?_
  refine hK4 _ _ ?_
  refine HT_ret ?_
  exact hQr _ _ [.slice A2 r.length c2] ⟨rfl, trivial⟩ ⟨A2, c2, rfl, hH⟩
def impl_parts.l1 (p0 : List ((Int) × (List (Int)))) : Nat → (List (List (Int))) → (List (Int)) → Int → Option (Lo ((List (List (Int))) × (List (Int))) ((List (List (Int))) × Bool))
 | 0, _, _, _ => none
 | kf + 1, x301, x302, x303 => if (decide (x303 < (p0.length : Int))) = true then ((rd? p0 x303).bind fun u418 => (impl_partsOf.f u418.1).bind fun u423 => (if (decide (u423 < 0)) = true then (some true) else (some (decide (u423 > (x302.length : Int))))).bind fun (o : Bool) => match o with | x435 => (if x435 = true then ((some ([], false)).bind fun z => some (Lo.ret z)) else ((cut? x302 (IntKind.i64.wrap ((x302.length : Int) - u423)) (x302.length : Int)).bind fun x441 => (slices_Clone_int_int.f x441).bind fun u442 => (app? 5864062014805 x301 [u442]).bind fun x445 => (cut? x302 0 (IntKind.i64.wrap ((x302.length : Int) - u423))).bind fun x446 => (app? 17592186044416 x446 [x303]).bind fun x449 => impl_parts.l1 p0 kf x445 x449 (IntKind.i64.wrap (x303 + 1))))) else (some (Lo.go (x301, x302)))
def impl_parts.f (p0 : List ((Int) × (List (Int)))) : Option ((List (List (Int))) × Bool) := (impl_parts.l1 p0 ((((p0.length : Int)) - (0)).toNat + 2) ([] : List (List (Int))) ([] : List (Int)) 0).bind fun (o : Lo ((List (List (Int))) × (List (Int))) ((List (List (Int))) × Bool)) => match o with | .go (x228, x229) => (some (x228, ((x229.length : Int) == 1))) | .ret z => some z
def impl_parts.post (sb s : St) (F0 : Fp) (r : (List (List (Int))) × Bool) : Value → St → Prop := fun v s' => ∃ (A0 : Option Addr) (c0 : Nat), v = .tuple #[.slice A0 r.1.length c0, .bool r.2] ∧ Hp sb s F0 s' [Ck.ol (Ow.sl OI 3) 24 A0 c0 r.1]
set_option maxRecDepth 100000 in
set_option maxHeartbeats 4000000 in
theorem impl_parts.ok (sb s : St) (F0 : Fp) (A0p : Option Addr) (c0p : Nat) (p0 : List ((Int) × (List (Int)))) (HRp0 : Rd KS139 sb A0p c0p p0) (hH : Hp sb s F0 s []) (r : (List (List (Int))) × Bool) (H : impl_parts.f p0 = some r) : GCall Try.prog 155 #[.slice A0p p0.length c0p] s (impl_parts.post sb s F0 r) := by
 refine GCall_ofk [.tmp 2, .tmp 3] [.slice A0p p0.length c0p, undef, undef, undef, undef, undef, undef, undef, undef, undef, undef, undef, undef, undef, undef, undef, undef, undef, undef, undef, undef, undef, undef, undef, undef, undef, undef, undef, undef, undef, undef, undef, undef, undef, undef, undef, undef, undef, undef, undef, undef, undef, undef, undef, undef, undef, undef, undef, undef, undef, undef, undef, undef] Try.func155 rfl rfl rfl ?_
 intro w Q hQr hQn hQp
 replace H := topE H
 unfold impl_parts.f at H
 refine HT_seq_k ?_
 intro K1 hK1
 refine HT_region ?_
 refine HL_cons rfl ?_
 refine o_assign ?_
 try dsimp only [putL, setL, evL, getL]
 refine HL_cons rfl ?_
 refine o_assign ?_
 try dsimp only [putL, setL, evL, getL]
 refine HL_nil ?_
 refine hK1 _ _ ?_
 refine HT_seq_k ?_
 intro K2 hK2
 refine HT_region ?_
 refine HL_cons rfl ?_
 refine o_lit0H (α := List (Int)) (K := (Kd.sl KI)) (O := (Ow.sl OI 3)) hH Try.underlying105 tI24 ?_
 intro A3 s3 hH' hG
 replace hH : Hp sb s F0 s3 [Ck.ol (Ow.sl OI 3) 24 A3 0 ([] : List (List (Int)))] := hH'
 clear hH' hG
 try dsimp only [putL, setL, evL, getL]
 refine HL_cons rfl ?_
 refine o_lit0H (α := Int) (K := KI) (O := OI) hH Try.underlying24 tI3 ?_
 intro A4 s4 hH' hG
 replace hH : Hp sb s F0 s4 [Ck.ol (Ow.sl OI 3) 24 A3 0 ([] : List (List (Int))), Ck.ol OI 3 A4 0 ([] : List (Int))] := hH'
 clear hH' hG
 try dsimp only [putL, setL, evL, getL]
 refine HL_cons rfl ?_
 refine o_assign ?_
 try dsimp only [putL, setL, evL, getL]
 refine HL_cons rfl ?_
 refine o_assign ?_
 try dsimp only [putL, setL, evL, getL]
 refine HL_nil ?_
 refine hK2 _ _ ?_
 refine HT_seq_k ?_
 intro K5 hK5
 refine HT_seq_k ?_
 intro K6 hK6
 refine HT_region ?_
 refine HL_cons rfl ?_
 refine o_move ?_
 try dsimp only [putL, setL, evL, getL]
 refine HL_cons rfl ?_
 refine o_len rfl Try.underlying57 ?_
 try dsimp only [putL, setL, evL, getL]
 refine HL_cons rfl ?_
 refine o_move ?_
 try dsimp only [putL, setL, evL, getL]
 refine HL_nil ?_
 refine hK6 _ _ ?_
 refine joinH H fun G7 hG7 H => ?_
 refine HT_toK (fun l' s' => ∃ (x228 : List (List (Int))) (A228 : Option Addr) (c228 : Nat) (x229 : List (Int)) (A229 : Option Addr) (c229 : Nat), G7 (.go (x228, x229)) = some r ∧ l' = [.slice A0p p0.length c0p, undef, getL l' 2, getL l' 3, .slice A228 x228.length c228, .slice A229 x229.length c229, getL l' 6, getL l' 7, getL l' 8, .slice A3 ([] : List (List (Int))).length 0, .slice A4 ([] : List (Int)).length 0, .slice A0p p0.length c0p, .int .i64 (p0.length : Int), getL l' 13, getL l' 14, getL l' 15, getL l' 16, getL l' 17, getL l' 18, getL l' 19, getL l' 20, getL l' 21, getL l' 22, getL l' 23, getL l' 24, getL l' 25, getL l' 26, getL l' 27, getL l' 28, getL l' 29, getL l' 30, getL l' 31, getL l' 32, getL l' 33, getL l' 34, getL l' 35, getL l' 36, getL l' 37, getL l' 38, getL l' 39, getL l' 40, getL l' 41, getL l' 42, getL l' 43, getL l' 44, getL l' 45, getL l' 46, getL l' 47, getL l' 48, undef, undef, undef, undef] ∧ Hp sb s F0 s' [Ck.ol (Ow.sl OI 3) 24 A228 c228 x228, Ck.ol OI 3 A229 c229 x229]) ?_ ?_
 ·intro K7 hK7
  refine HT_block ?_
  refine HT_loopK (fun kf l' s' => ∃ (x301 : List (List (Int))) (A301 : Option Addr) (c301 : Nat) (x302 : List (Int)) (A302 : Option Addr) (c302 : Nat) (x303 : Int), (impl_parts.l1 p0 kf x301 x302 x303).bind G7 = some r ∧ l' = [.slice A0p p0.length c0p, undef, getL l' 2, getL l' 3, .slice A301 x301.length c301, .slice A302 x302.length c302, getL l' 6, getL l' 7, getL l' 8, .slice A3 ([] : List (List (Int))).length 0, .slice A4 ([] : List (Int)).length 0, .slice A0p p0.length c0p, .int .i64 (p0.length : Int), .int .i64 x303, getL l' 14, getL l' 15, getL l' 16, getL l' 17, getL l' 18, getL l' 19, getL l' 20, getL l' 21, getL l' 22, getL l' 23, getL l' 24, getL l' 25, getL l' 26, getL l' 27, getL l' 28, getL l' 29, getL l' 30, getL l' 31, getL l' 32, getL l' 33, getL l' 34, getL l' 35, getL l' 36, getL l' 37, getL l' 38, getL l' 39, getL l' 40, getL l' 41, getL l' 42, getL l' 43, getL l' 44, getL l' 45, getL l' 46, getL l' 47, getL l' 48, undef, undef, undef, undef] ∧ Hp sb s F0 s' [Ck.ol (Ow.sl OI 3) 24 A301 c301 x301, Ck.ol OI 3 A302 c302 x302]) ((((p0.length : Int)) - (0)).toNat + 2) ⟨([] : List (List (Int))), A3, 0, ([] : List (Int)), A4, 0, 0, H, rfl, hH⟩ ?_
  rintro kf l' s378 ⟨x301, A301, c301, x302, A302, c302, x303, H, hl, hH⟩ K378 hK378
  generalize getL l' 2 = j2, getL l' 3 = j3, getL l' 6 = j6, getL l' 7 = j7, getL l' 8 = j8, getL l' 14 = j14, getL l' 15 = j15, getL l' 16 = j16, getL l' 17 = j17, getL l' 18 = j18, getL l' 19 = j19, getL l' 20 = j20, getL l' 21 = j21, getL l' 22 = j22, getL l' 23 = j23, getL l' 24 = j24, getL l' 25 = j25, getL l' 26 = j26, getL l' 27 = j27, getL l' 28 = j28, getL l' 29 = j29, getL l' 30 = j30, getL l' 31 = j31, getL l' 32 = j32, getL l' 33 = j33, getL l' 34 = j34, getL l' 35 = j35, getL l' 36 = j36, getL l' 37 = j37, getL l' 38 = j38, getL l' 39 = j39, getL l' 40 = j40, getL l' 41 = j41, getL l' 42 = j42, getL l' 43 = j43, getL l' 44 = j44, getL l' 45 = j45, getL l' 46 = j46, getL l' 47 = j47, getL l' 48 = j48 at hl
  subst hl
  cases kf with
  | zero => simp [impl_parts.l1] at H
  | succ kf =>
   rw [impl_parts.l1] at H
   refine HT_seq_k ?_
   intro K379 hK379
   refine HT_region ?_
   refine HL_cons rfl ?_
   refine o_bin rfl rfl rfl ?_
   try dsimp only [putL, setL, evL, getL]
   refine HL_nil ?_
   refine hK379 _ _ ?_
   refine HT_seq_k ?_
   intro K380 hK380
   rcases Bool.eq_false_or_eq_true (decide (x303 < (p0.length : Int))) with hb381 | hb381
   ·replace H := iteT hb381 H
    refine HT_true (congrArg Value.bool hb381) ?_
    refine HT_skip ?_
    refine hK380 _ _ ?_
    refine HT_seq_k ?_
    intro K416 hK416
    refine HT_block ?_
    refine HT_seq_k ?_
    intro K417 hK417
    refine HT_region ?_
    refine HL_cons rfl ?_
    refine o_move ?_
    try dsimp only [putL, setL, evL, getL]
    replace H := headE H
    obtain ⟨u418, hu418, H⟩ := H
    obtain ⟨b418, o418, cs418, hr418, hh418, hel418⟩ := Rd.elb HRp0 hu418
    obtain ⟨_, _, rfl, rfl, ⟨A419, c419, rfl, D419⟩⟩ := hr418
    refine HL_cons rfl ?_
    refine hel418 s378 rfl rfl Try.underlying57 tI139 ?_
    try dsimp only [putL, setL, evL, getL]
    refine HL_cons rfl ?_
    refine o_loads' [.int .i64 u418.1, .slice A419 u418.2.length c419] rfl Try.underlying139 rfl tI139 rfl (fun j v hj => (hh418 hH.bs.mono) j v hj) ?_
    try dsimp only [putL, setL, evL, getL]
    refine HL_cons rfl ?_
    refine o_allocH hH tI139 ?_
    intro b420 s420 hH' hG
    replace hH : Hp sb s F0 s420 [Ck.ol (Ow.sl OI 3) 24 A301 c301 x301, Ck.ol OI 3 A302 c302 x302, Ck.ov b420 [.int .i64 0, .slice none 0 0] 139] := hH'
    clear hH' hG
    try dsimp only [putL, setL, evL, getL]
    refine HL_cons rfl ?_
    refine o_assign ?_
    try dsimp only [putL, setL, evL, getL]
    refine HL_cons rfl ?_
    refine o_stvH (vs := [.int .i64 u418.1, .slice A419 u418.2.length c419]) (us' := [.int .i64 u418.1, .slice A419 u418.2.length c419]) hH 2 rfl rfl rfl rfl rfl tI139 rfl (List.cons_ne_nil _ _) rfl rfl rfl ?_
    intro s421 hH'
    replace hH : Hp sb s F0 s421 [Ck.ol (Ow.sl OI 3) 24 A301 c301 x301, Ck.ol OI 3 A302 c302 x302, Ck.ov b420 [.int .i64 u418.1, .slice A419 u418.2.length c419] 139] := hH'
    clear hH'
    try dsimp only [putL, setL, evL, getL]
    refine HL_nil ?_
    refine hK417 _ _ ?_
    refine HT_seq_k ?_
    intro K422 hK422
    refine HT_region ?_
    refine HL_cons rfl ?_
    refine o_faddr' (ft := 3) (off := 0) rfl Try.underlying139 rfl tI3 (by decide) ?_
    try dsimp only [putL, setL, evL, getL]
    refine HL_cons rfl ?_
    refine o_load' rfl Try.underlying3 rfl (hH.hasv 2 rfl rfl) ?_
    try dsimp only [putL, setL, evL, getL]
    replace H := headE H
    obtain ⟨u423, hu423, H⟩ := H
    refine HL_cons rfl ?_
    refine o_call (args := #[.int .i64 u418.1]) Try.func203 rfl rfl rfl (impl_partsOf.ok sb s421 no u418.1 (Hp.own hH.bs) _ hu423) ?_
    rintro _ s423 ⟨rfl, hD⟩
    replace hH := hH.back0 hD (Up.refl _ _ _)
    clear hD
    dsimp only [addC, setC, rmC, selC, getC] at hH
    try dsimp only [putL, setL, evL, getL]
    refine HL_cons rfl ?_
    refine o_assign ?_
    try dsimp only [putL, setL, evL, getL]
    refine HL_nil ?_
    refine hK422 _ _ ?_
    refine HT_seq_k ?_
    intro K432 hK432
    refine joinH H fun G433 hG433 H => ?_
    refine HT_joinK (fun l' s' => ∃ (x435 : Bool), G433 x435 = some r ∧ l' = [.slice A0p p0.length c0p, undef, j2, j3, .slice A301 x301.length c301, .slice A302 x302.length c302, .int .i64 x303, .pointer (some ⟨b420, 0, none⟩), .int .i64 u423, .slice A3 ([] : List (List (Int))).length 0, .slice A4 ([] : List (Int)).length 0, .slice A0p p0.length c0p, .int .i64 (p0.length : Int), .int .i64 x303, .bool (decide (x303 < (p0.length : Int))), .int .i64 x303, .pointer (some ⟨b418, o418, none⟩), .agg #[.int .i64 u418.1, .slice A419 u418.2.length c419], .pointer (some ⟨b420, 0 + 0, none⟩), .int .i64 u418.1, .int .i64 u423, getL l' 21, getL l' 22, getL l' 23, getL l' 24, getL l' 25, getL l' 26, getL l' 27, .bool x435, j29, j30, j31, j32, j33, j34, j35, j36, j37, j38, j39, j40, j41, j42, j43, j44, j45, j46, j47, j48, undef, undef, undef, undef] ∧ Hp sb s F0 s' [Ck.ol (Ow.sl OI 3) 24 A301 c301 x301, Ck.ol OI 3 A302 c302 x302]) ?_ ?_
    ·intro K433 hK433
     refine HT_region ?_
     refine HL_cons rfl ?_
     refine o_move ?_
     try dsimp only [putL, setL, evL, getL]
     refine HL_cons rfl ?_
     refine o_bin rfl rfl rfl ?_
     try dsimp only [putL, setL, evL, getL]
     refine HL_cons rfl ?_
     refine o_move ?_
     try dsimp only [putL, setL, evL, getL]
     rcases Bool.eq_false_or_eq_true (decide (u423 < 0)) with hb436 | hb436
     ·replace H := iteT hb436 H
      refine HL_skip ?_ ?_
      ·exact wantF (j := 2) (b := false) (t := 23) (c := decide (u423 < 0)) rfl rfl rfl rfl hb436
      try dsimp only [putL, setL, evL, getL]
      refine HL_skip ?_ ?_
      ·exact wantF (j := 2) (b := false) (t := 23) (c := decide (u423 < 0)) rfl rfl rfl rfl hb436
      try dsimp only [putL, setL, evL, getL]
      refine HL_skip ?_ ?_
      ·exact wantF (j := 2) (b := false) (t := 23) (c := decide (u423 < 0)) rfl rfl rfl rfl hb436
      try dsimp only [putL, setL, evL, getL]
      refine HL_skip ?_ ?_
      ·exact wantF (j := 2) (b := false) (t := 23) (c := decide (u423 < 0)) rfl rfl rfl rfl hb436
      try dsimp only [putL, setL, evL, getL]
      refine HL_cons rfl ?_
      refine o_pickT rfl hb436 ?_
      try dsimp only [putL, setL, evL, getL]
      refine HL_nil ?_
      exact hK433 _ _ ⟨true, H, rfl, hH.sel [0, 1] (by decide)⟩
     ·replace H := iteF hb436 H
      refine HL_want ?_ ?_
      ·exact wantT (j := 2) (b := false) (t := 23) (c := decide (u423 < 0)) rfl rfl rfl rfl hb436
      refine o_move ?_
      try dsimp only [putL, setL, evL, getL]
      refine HL_want ?_ ?_
      ·exact wantT (j := 2) (b := false) (t := 23) (c := decide (u423 < 0)) rfl rfl rfl rfl hb436
      refine o_move ?_
      try dsimp only [putL, setL, evL, getL]
      refine HL_want ?_ ?_
      ·exact wantT (j := 2) (b := false) (t := 23) (c := decide (u423 < 0)) rfl rfl rfl rfl hb436
      refine o_len rfl Try.underlying24 ?_
      try dsimp only [putL, setL, evL, getL]
      refine HL_want ?_ ?_
      ·exact wantT (j := 2) (b := false) (t := 23) (c := decide (u423 < 0)) rfl rfl rfl rfl hb436
      refine o_bin rfl rfl rfl ?_
      try dsimp only [putL, setL, evL, getL]
      refine HL_cons rfl ?_
      refine o_pickF rfl hb436 ?_
      try dsimp only [putL, setL, evL, getL]
      refine HL_nil ?_
      exact hK433 _ _ ⟨decide (u423 > (x302.length : Int)), H, rfl, hH.sel [0, 1] (by decide)⟩
    ·rintro l' s437 ⟨x435, H, hl, hH⟩
     generalize getL l' 21 = j21, getL l' 22 = j22, getL l' 23 = j23, getL l' 24 = j24, getL l' 25 = j25, getL l' 26 = j26, getL l' 27 = j27 at hl
     subst hl
     replace H := hG433 _ H
     try dsimp only at H
     rcases Bool.eq_false_or_eq_true x435 with hb438 | hb438
     ·replace H := iteT hb438 H
      refine HT_true (congrArg Value.bool hb438) ?_
      refine HT_seq_k ?_
      intro K439 hK439
      refine HT_region ?_
      refine HL_cons rfl ?_
      refine o_assign ?_
      try dsimp only [putL, setL, evL, getL]
      refine HL_cons rfl ?_
      refine o_assign ?_
      try dsimp only [putL, setL, evL, getL]
      refine HL_nil ?_
      refine hK439 _ _ ?_
      refine HT_ret ?_
      replace H := escH (fun z hz => hG7 _ hz) H
      exact hQr _ _ [.slice none 0 0, .bool false] ⟨rfl, rfl, trivial⟩ (retH (fun r => impl_parts.post sb s F0 r _ _) (show some _ = some r from H) ⟨none, 0, rfl, (hH.nil (K := (Kd.sl KI)) (Ow.sl OI 3) 24).sel [2] (by decide)⟩)
     ·replace H := iteF hb438 H
      refine HT_false (congrArg Value.bool hb438) ?_
      refine HT_skip ?_
      refine hK432 _ _ ?_
      refine HT_seq_k ?_
      intro K440 hK440
      refine HT_region ?_
      refine HL_cons rfl ?_
      refine o_move ?_
      try dsimp only [putL, setL, evL, getL]
      refine HL_cons rfl ?_
      refine o_move ?_
      try dsimp only [putL, setL, evL, getL]
      refine HL_cons rfl ?_
      refine o_move ?_
      try dsimp only [putL, setL, evL, getL]
      refine HL_cons rfl ?_
      refine o_len rfl Try.underlying24 ?_
      try dsimp only [putL, setL, evL, getL]
      refine HL_cons rfl ?_
      refine o_move ?_
      try dsimp only [putL, setL, evL, getL]
      refine HL_cons rfl ?_
      refine o_bin rfl rfl rfl ?_
      try dsimp only [putL, setL, evL, getL]
      replace H := headE H
      obtain ⟨x441, hx441, H⟩ := H
      refine HL_cons rfl ?_
      refine o_cutA (xs := x302) (kl := .i64) (kh := .i64) (L := IntKind.i64.wrap ((x302.length : Int) - u423)) (H := (x302.length : Int)) rfl rfl rfl Try.underlying24 tI3 (hH.rd 1 rfl).1 hx441 ?_
      have D441 := @Der.cut _ _ OI 3 A302 c302 _ _ _ _ hx441
      try dsimp only [putL, setL, evL, getL]
      replace H := headE H
      obtain ⟨u442, hu442, H⟩ := H
      refine HL_cons rfl ?_
      refine o_call (args := #[.slice (cutA A302 c302 (Int.toNat (IntKind.i64.wrap ((x302.length : Int) - u423))) (Kd.sz KI)) x441.length (c302 - Int.toNat (IntKind.i64.wrap ((x302.length : Int) - u423)))]) Try.func141 rfl rfl rfl (slices_Clone_int_int.ok s437 s437 no (cutA A302 c302 (Int.toNat (IntKind.i64.wrap ((x302.length : Int) - u423))) (Kd.sz KI)) (c302 - Int.toNat (IntKind.i64.wrap ((x302.length : Int) - u423))) x441 (D441 _ _ hH.bs (hH.ckP 1)) (Hp.own (Bs.refl s437)) _ hu442) ?_
      rintro _ s442 ⟨A443, c443, rfl, hD⟩
      replace hH := hH.back0T hD
      clear hD
      dsimp only [addC, setC, rmC, selC, getC] at hH
      try dsimp only [putL, setL, evL, getL]
      replace hH := hH.conv [2] (by decide) (d := Ck.el (Ow.sl OI 3) [.slice A443 u442.length c443] u442) Ent.sl
      dsimp only [addC, setC, rmC, selC, getC] at hH
      refine HL_cons rfl ?_
      refine o_litD (K := (Kd.sl KI)) (O := (Ow.sl OI 3)) (ca := #[.slice A443 u442.length c443]) [[.slice A443 u442.length c443]] [u442] hH [3] (by decide) rfl Try.underlying105 tI24 rfl (by decide) rfl rfl rfl rfl (by kernel_rfl) rfl ?_
      intro A444 s444 hH' hG
      replace hH : Hp sb s F0 s444 [Ck.ol (Ow.sl OI 3) 24 A301 c301 x301, Ck.ol OI 3 A302 c302 x302, Ck.emp, Ck.emp, Ck.ol (Ow.sl OI 3) 24 A444 1 [u442]] := hH'
      clear hH' hG
      try dsimp only [putL, setL, evL, getL]
      replace H := headE H
      obtain ⟨x445, hx445, H⟩ := H
      refine HL_cons rfl ?_
      refine o_appD (K := (Kd.sl KI)) (n := 5864062014805) (A := A301) (c := c301) (xs := x301) (ys := [u442]) (B := A444) (c2 := 1) hH 0 4 (by decide) rfl rfl rfl rfl rfl Try.underlying105 tI24 rfl (by decide) (by decide) (by decide) hx445 ?_
      intro A445 c445 s445 hH'
      replace hH : Hp sb s F0 s445 [Ck.ol (Ow.sl OI 3) 24 A445 c445 x445, Ck.ol OI 3 A302 c302 x302, Ck.emp, Ck.emp, Ck.emp] := hH'
      clear hH'
      try dsimp only [putL, setL, evL, getL]
      refine HL_cons rfl ?_
      refine o_assign ?_
      try dsimp only [putL, setL, evL, getL]
      refine HL_nil ?_
      refine hK440 _ _ ?_
      refine HT_region ?_
      refine HL_cons rfl ?_
      refine o_move ?_
      try dsimp only [putL, setL, evL, getL]
      refine HL_cons rfl ?_
      refine o_move ?_
      try dsimp only [putL, setL, evL, getL]
      refine HL_cons rfl ?_
      refine o_len rfl Try.underlying24 ?_
      try dsimp only [putL, setL, evL, getL]
      refine HL_cons rfl ?_
      refine o_move ?_
      try dsimp only [putL, setL, evL, getL]
      refine HL_cons rfl ?_
      refine o_bin rfl rfl rfl ?_
      try dsimp only [putL, setL, evL, getL]
      replace H := headE H
      obtain ⟨x446, hx446, H⟩ := H
      refine HL_cons rfl ?_
      refine o_cutA (xs := x302) (kl := .i64) (kh := .i64) (L := 0) (H := IntKind.i64.wrap ((x302.length : Int) - u423)) rfl rfl rfl Try.underlying24 tI3 (hH.rd 1 rfl).1 hx446 ?_
      have D446 := @Der.cut _ _ OI 3 A302 c302 _ _ _ _ hx446
      try dsimp only [putL, setL, evL, getL]
      refine HL_cons rfl ?_
      refine o_move ?_
      try dsimp only [putL, setL, evL, getL]
      refine HL_cons rfl ?_
      refine o_litF (K := KI) (O := OI) (ca := #[.int .i64 x303]) [[.int .i64 x303]] [x303] hH Try.underlying24 tI3 rfl (by decide) rfl rfl (by kernel_rfl) rfl ⟨rfl, Ent.own (Ent.flat rfl), trivial⟩ ?_
      intro A447 s447 hH' hG
      replace hH : Hp sb s F0 s447 [Ck.ol (Ow.sl OI 3) 24 A445 c445 x445, Ck.ol OI 3 A302 c302 x302, Ck.emp, Ck.emp, Ck.emp, Ck.ol OI 3 A447 1 [x303]] := hH'
      clear hH' hG
      try dsimp only [putL, setL, evL, getL]
      replace hH := hH.cut 1 rfl rfl hx446
      dsimp only [addC, setC, rmC, selC, getC] at hH
      replace H := headE H
      obtain ⟨x449, hx449, H⟩ := H
      refine HL_cons rfl ?_
      refine o_appF (K := KI) (n := 17592186044416) (A := (cutA A302 c302 (Int.toNat 0) (Kd.sz KI))) (c := c302 - Int.toNat 0) (xs := x446) (ys := [x303]) (B := A447) (c2 := 1) hH 1 rfl rfl rfl rfl Try.underlying24 tI3 rfl (by decide) (by decide) (by decide) (Src.flat (hH.rd 5 rfl)) hx449 ?_
      intro A449 c449 s449 hH'
      replace hH : Hp sb s F0 s449 [Ck.ol (Ow.sl OI 3) 24 A445 c445 x445, Ck.ol OI 3 A449 c449 x449, Ck.emp, Ck.emp, Ck.emp, Ck.ol OI 3 A447 1 [x303]] := hH'
      clear hH'
      try dsimp only [putL, setL, evL, getL]
      refine HL_cons rfl ?_
      refine o_assign ?_
      try dsimp only [putL, setL, evL, getL]
      refine HL_nil ?_
      refine hK416 _ _ ?_
      refine HT_region ?_
      refine HL_cons rfl ?_
      refine o_bin rfl rfl rfl ?_
      try dsimp only [putL, setL, evL, getL]
      refine HL_cons rfl ?_
      refine o_move ?_
      try dsimp only [putL, setL, evL, getL]
      refine HL_nil ?_
      exact hK378 _ _ ⟨kf, Nat.lt_succ_self kf, x445, A445, c445, x449, A449, c449, IntKind.i64.wrap (x303 + 1), H, rfl, hH.sel [0, 1] (by decide)⟩
   ·replace H := iteF hb381 H
    refine HT_false (congrArg Value.bool hb381) ?_
    refine HT_exit ?_
    exact hK7 _ _ ⟨x301, A301, c301, x302, A302, c302, H, rfl, hH⟩
 ·rintro l' s450 ⟨x228, A228, c228, x229, A229, c229, H, hl, hH⟩
  generalize getL l' 2 = j2, getL l' 3 = j3, getL l' 6 = j6, getL l' 7 = j7, getL l' 8 = j8, getL l' 13 = j13, getL l' 14 = j14, getL l' 15 = j15, getL l' 16 = j16, getL l' 17 = j17, getL l' 18 = j18, getL l' 19 = j19, getL l' 20 = j20, getL l' 21 = j21, getL l' 22 = j22, getL l' 23 = j23, getL l' 24 = j24, getL l' 25 = j25, getL l' 26 = j26, getL l' 27 = j27, getL l' 28 = j28, getL l' 29 = j29, getL l' 30 = j30, getL l' 31 = j31, getL l' 32 = j32, getL l' 33 = j33, getL l' 34 = j34, getL l' 35 = j35, getL l' 36 = j36, getL l' 37 = j37, getL l' 38 = j38, getL l' 39 = j39, getL l' 40 = j40, getL l' 41 = j41, getL l' 42 = j42, getL l' 43 = j43, getL l' 44 = j44, getL l' 45 = j45, getL l' 46 = j46, getL l' 47 = j47, getL l' 48 = j48 at hl
  subst hl
  replace H := hG7 _ H
  try dsimp only at H
  refine hK5 _ _ ?_
  refine HT_seq_k ?_
  intro K451 hK451
  refine HT_region ?_
  refine HL_cons rfl ?_
  refine o_move ?_
  try dsimp only [putL, setL, evL, getL]
  refine HL_cons rfl ?_
  refine o_move ?_
  try dsimp only [putL, setL, evL, getL]
  refine HL_cons rfl ?_
  refine o_len rfl Try.underlying24 ?_
  try dsimp only [putL, setL, evL, getL]
  refine HL_cons rfl ?_
  refine o_bin rfl rfl rfl ?_
  try dsimp only [putL, setL, evL, getL]
  refine HL_cons rfl ?_
  refine o_assign ?_
  try dsimp only [putL, setL, evL, getL]
  refine HL_cons rfl ?_
  refine o_assign ?_
  try dsimp only [putL, setL, evL, getL]
  refine HL_nil ?_
  refine hK451 _ _ ?_
  refine HT_ret ?_
  exact hQr _ _ [.slice A228 x228.length c228, .bool ((x229.length : Int) == 1)] ⟨rfl, rfl, trivial⟩ (retH (fun r => impl_parts.post sb s F0 r _ _) (show some _ = some r from H) ⟨A228, c228, rfl, hH.sel [0] (by decide)⟩)
def impl_GoodRe.f (p0 : List ((Int) × (List (Int)))) : Option Bool := ((impl_inRange.f (p0.length : Int) 1 40).bind fun u20 => if (!u20) = true then (some true) else ((slices_ContainsFunc_impl_Re_impl_Re_impl_GoodRe_1.f p0).bind fun u22 => some u22)).bind fun (o : Bool) => match o with | x19 => (if x19 = true then (some false) else ((impl_parts.f p0).bind fun u27 => some u27.2))
def impl_GoodRe.post (sb s : St) (F0 : Fp) (r : Bool) : Value → St → Prop := fun v s' => v = .bool r ∧ Hp sb s F0 s' []
set_option maxRecDepth 100000 in
set_option maxHeartbeats 4000000 in
theorem impl_GoodRe.ok (sb s : St) (F0 : Fp) (A0p : Option Addr) (c0p : Nat) (p0 : List ((Int) × (List (Int)))) (HRp0 : Rd KS139 sb A0p c0p p0) (hH : Hp sb s F0 s []) (r : Bool) (H : impl_GoodRe.f p0 = some r) : GCall Try.prog 131 #[.slice A0p p0.length c0p] s (impl_GoodRe.post sb s F0 r) := by
 refine GCall_ofk [.tmp 2] [.slice A0p p0.length c0p, undef, undef, undef, undef, undef, undef, undef, undef, undef, undef, undef, undef, undef, undef, undef, undef, undef, undef] Try.func131 rfl rfl rfl ?_
 intro w Q hQr hQn hQp
 replace H := topE H
 unfold impl_GoodRe.f at H
 refine HT_seq_k ?_
 intro K1 hK1
 refine HT_region ?_
 refine HL_cons rfl ?_
 refine o_assign ?_
 try dsimp only [putL, setL, evL, getL]
 refine HL_nil ?_
 refine hK1 _ _ ?_
 refine HT_seq_k ?_
 intro K14 hK14
 refine joinH H fun G15 hG15 H => ?_
 refine HT_joinK (fun l' s' => ∃ (x19 : Bool), G15 x19 = some r ∧ l' = [.slice A0p p0.length c0p, undef, .bool false, undef, undef, getL l' 5, getL l' 6, getL l' 7, getL l' 8, getL l' 9, getL l' 10, getL l' 11, .bool x19, undef, undef, undef, undef, undef, undef] ∧ Hp sb s F0 s' []) ?_ ?_
 ·intro K15 hK15
  refine HT_region ?_
  refine HL_cons rfl ?_
  refine o_move ?_
  try dsimp only [putL, setL, evL, getL]
  refine HL_cons rfl ?_
  refine o_len rfl Try.underlying57 ?_
  try dsimp only [putL, setL, evL, getL]
  replace H := headE H
  obtain ⟨u20, hu20, H⟩ := H
  refine HL_cons rfl ?_
  refine o_call (args := #[.int .i64 (p0.length : Int), .int .i64 1, .int .i64 40]) Try.func105 rfl rfl rfl (impl_inRange.ok sb s no (p0.length : Int) 1 40 (Hp.own hH.bs) _ hu20) ?_
  rintro _ s20 ⟨rfl, hD⟩
  replace hH := hH.back0 hD (Up.refl _ _ _)
  clear hD
  dsimp only [addC, setC, rmC, selC, getC] at hH
  try dsimp only [putL, setL, evL, getL]
  refine HL_cons rfl ?_
  refine o_not rfl ?_
  try dsimp only [putL, setL, evL, getL]
  refine HL_cons rfl ?_
  refine o_move ?_
  try dsimp only [putL, setL, evL, getL]
  rcases Bool.eq_false_or_eq_true (!u20) with hb21 | hb21
  ·replace H := iteT hb21 H
   refine HL_skip ?_ ?_
   ·exact wantF (j := 4) (b := false) (t := 9) (c := !u20) rfl rfl rfl rfl hb21
   try dsimp only [putL, setL, evL, getL]
   refine HL_skip ?_ ?_
   ·exact wantF (j := 4) (b := false) (t := 9) (c := !u20) rfl rfl rfl rfl hb21
   try dsimp only [putL, setL, evL, getL]
   refine HL_cons rfl ?_
   refine o_pickT rfl hb21 ?_
   try dsimp only [putL, setL, evL, getL]
   refine HL_nil ?_
   exact hK15 _ _ ⟨true, H, rfl, hH⟩
  ·replace H := iteF hb21 H
   refine HL_want ?_ ?_
   ·exact wantT (j := 4) (b := false) (t := 9) (c := !u20) rfl rfl rfl rfl hb21
   refine o_move ?_
   try dsimp only [putL, setL, evL, getL]
   replace H := headE H
   obtain ⟨u22, hu22, H⟩ := H
   refine HL_want ?_ ?_
   ·exact wantT (j := 4) (b := false) (t := 9) (c := !u20) rfl rfl rfl rfl hb21
   refine o_call (args := #[.slice A0p p0.length c0p, .func (.func 191) #[] #[]]) Try.func190 rfl rfl rfl (slices_ContainsFunc_impl_Re_impl_Re_impl_GoodRe_1.ok sb s20 no A0p c0p p0 HRp0 (Hp.own hH.bs) _ hu22) ?_
   rintro _ s22 ⟨rfl, hD⟩
   replace hH := hH.back0 hD (Up.refl _ _ _)
   clear hD
   dsimp only [addC, setC, rmC, selC, getC] at hH
   try dsimp only [putL, setL, evL, getL]
   refine HL_cons rfl ?_
   refine o_pickF rfl hb21 ?_
   try dsimp only [putL, setL, evL, getL]
   refine HL_nil ?_
   exact hK15 _ _ ⟨u22, H, rfl, hH⟩
 ·rintro l' s23 ⟨x19, H, hl, hH⟩
  generalize getL l' 5 = j5, getL l' 6 = j6, getL l' 7 = j7, getL l' 8 = j8, getL l' 9 = j9, getL l' 10 = j10, getL l' 11 = j11 at hl
  subst hl
  replace H := hG15 _ H
  try dsimp only at H
  rcases Bool.eq_false_or_eq_true x19 with hb24 | hb24
  ·replace H := iteT hb24 H
   refine HT_true (congrArg Value.bool hb24) ?_
   refine HT_seq_k ?_
   intro K25 hK25
   refine HT_region ?_
   refine HL_cons rfl ?_
   refine o_assign ?_
   try dsimp only [putL, setL, evL, getL]
   refine HL_nil ?_
   refine hK25 _ _ ?_
   refine HT_ret ?_
   exact hQr _ _ [.bool false] ⟨rfl, trivial⟩ (retH (fun r => impl_GoodRe.post sb s F0 r _ _) (show some _ = some r from H) ⟨rfl, hH⟩)
  ·replace H := iteF hb24 H
   refine HT_false (congrArg Value.bool hb24) ?_
   refine HT_skip ?_
   refine hK14 _ _ ?_
   refine HT_seq_k ?_
   intro K26 hK26
   refine HT_region ?_
   refine HL_cons rfl ?_
   refine o_move ?_
   try dsimp only [putL, setL, evL, getL]
   replace H := headE H
   obtain ⟨u27, hu27, H⟩ := H
   refine HL_cons rfl ?_
   refine o_call (args := #[.slice A0p p0.length c0p]) Try.func155 rfl rfl rfl (impl_parts.ok sb s23 no A0p c0p p0 HRp0 (Hp.own hH.bs) _ hu27) ?_
   rintro _ s27 ⟨A28, c28, rfl, hD⟩
   replace hH := hH.back0 hD (Up.refl _ _ _)
   clear hD
   dsimp only [addC, setC, rmC, selC, getC] at hH
   try dsimp only [putL, setL, evL, getL]
   refine HL_cons rfl ?_
   refine o_move ?_
   try dsimp only [putL, setL, evL, getL]
   refine HL_cons rfl ?_
   refine o_extract rfl rfl ?_
   try dsimp only [putL, setL, evL, getL]
   refine HL_cons rfl ?_
   refine o_extract rfl rfl ?_
   try dsimp only [putL, setL, evL, getL]
   refine HL_cons rfl ?_
   refine o_assign ?_
   try dsimp only [putL, setL, evL, getL]
   refine HL_cons rfl ?_
   refine o_assign ?_
   try dsimp only [putL, setL, evL, getL]
   refine HL_nil ?_
   refine hK26 _ _ ?_
   refine HT_seq_k ?_
   intro K29 hK29
   refine HT_region ?_
   refine HL_cons rfl ?_
   refine o_move ?_
   try dsimp only [putL, setL, evL, getL]
   refine HL_cons rfl ?_
   refine o_assign ?_
   try dsimp only [putL, setL, evL, getL]
   refine HL_nil ?_
   refine hK29 _ _ ?_
   refine HT_ret ?_
   exact hQr _ _ [.bool u27.2] ⟨rfl, trivial⟩ (retH (fun r => impl_GoodRe.post sb s F0 r _ _) (show some _ = some r from H) ⟨rfl, hH.sel [] (by decide)⟩)
def impl_isPlain_1.f (p0_0 : Int) (p0_1 : List (Int)) : Option Bool := if (p0_0 == 5) = true then (some true) else (some (p0_0 == 7))
def impl_isPlain_1.post (sb s : St) (F0 : Fp) (r : Bool) : Value → St → Prop := fun v s' => v = .bool r ∧ Hp sb s F0 s' []
set_option maxRecDepth 100000 in
set_option maxHeartbeats 4000000 in
theorem impl_isPlain_1.ok (sb s : St) (F0 : Fp) (p0_0 : Int) (A0_1p : Option Addr) (c0_1p : Nat) (p0_1 : List (Int)) (HRp0_1 : Rd KI sb A0_1p c0_1p p0_1) (hH : Hp sb s F0 s []) (r : Bool) (H : impl_isPlain_1.f p0_0 p0_1 = some r) : GCall Try.prog 194 #[.agg #[.int .i64 p0_0, .slice A0_1p p0_1.length c0_1p]] s (impl_isPlain_1.post sb s F0 r) := by
 refine GCall_ofk [.tmp 2] [.agg #[.int .i64 p0_0, .slice A0_1p p0_1.length c0_1p], undef, undef, undef, undef, undef, undef, undef, undef, undef, undef] Try.func194 rfl rfl rfl ?_
 intro w Q hQr hQn hQp
 replace H := topE H
 unfold impl_isPlain_1.f at H
 refine HT_seq_k ?_
 intro K1 hK1
 refine HT_region ?_
 refine HL_cons rfl ?_
 refine o_boxH hH rfl ?_
 intro b2 s2 hH' hG
 replace hH : Hp sb s F0 s2 [Ck.ov b2 [.int .i64 p0_0, .slice A0_1p p0_1.length c0_1p] 139] := hH'
 clear hH' hG
 try dsimp only [putL, setL, evL, getL]
 refine HL_cons rfl ?_
 refine o_assign ?_
 try dsimp only [putL, setL, evL, getL]
 refine HL_nil ?_
 refine hK1 _ _ ?_
 refine HT_seq_k ?_
 intro K3 hK3
 refine HT_region ?_
 refine HL_cons rfl ?_
 refine o_faddr' (ft := 3) (off := 0) rfl Try.underlying139 rfl tI3 (by decide) ?_
 try dsimp only [putL, setL, evL, getL]
 refine HL_cons rfl ?_
 refine o_load' rfl Try.underlying3 rfl (hH.hasv 0 rfl rfl) ?_
 try dsimp only [putL, setL, evL, getL]
 refine HL_cons rfl ?_
 refine o_bin rfl rfl rfl ?_
 try dsimp only [putL, setL, evL, getL]
 refine HL_cons rfl ?_
 refine o_move ?_
 try dsimp only [putL, setL, evL, getL]
 rcases Bool.eq_false_or_eq_true (p0_0 == 5) with hb4 | hb4
 ·replace H := iteT hb4 H
  refine HL_skip ?_ ?_
  ·exact wantF (j := 3) (b := false) (t := 6) (c := p0_0 == 5) rfl rfl rfl rfl hb4
  try dsimp only [putL, setL, evL, getL]
  refine HL_skip ?_ ?_
  ·exact wantF (j := 3) (b := false) (t := 6) (c := p0_0 == 5) rfl rfl rfl rfl hb4
  try dsimp only [putL, setL, evL, getL]
  refine HL_skip ?_ ?_
  ·exact wantF (j := 3) (b := false) (t := 6) (c := p0_0 == 5) rfl rfl rfl rfl hb4
  try dsimp only [putL, setL, evL, getL]
  refine HL_cons rfl ?_
  refine o_pickT rfl hb4 ?_
  try dsimp only [putL, setL, evL, getL]
  refine HL_cons rfl ?_
  refine o_assign ?_
  try dsimp only [putL, setL, evL, getL]
  refine HL_nil ?_
  refine hK3 _ _ ?_
  refine HT_ret ?_
  exact hQr _ _ [.bool true] ⟨rfl, trivial⟩ (retH (fun r => impl_isPlain_1.post sb s F0 r _ _) (show some _ = some r from H) ⟨rfl, hH.sel [] (by decide)⟩)
 ·replace H := iteF hb4 H
  refine HL_want ?_ ?_
  ·exact wantT (j := 3) (b := false) (t := 6) (c := p0_0 == 5) rfl rfl rfl rfl hb4
  refine o_faddr' (ft := 3) (off := 0) rfl Try.underlying139 rfl tI3 (by decide) ?_
  try dsimp only [putL, setL, evL, getL]
  refine HL_want ?_ ?_
  ·exact wantT (j := 3) (b := false) (t := 6) (c := p0_0 == 5) rfl rfl rfl rfl hb4
  refine o_load' rfl Try.underlying3 rfl (hH.hasv 0 rfl rfl) ?_
  try dsimp only [putL, setL, evL, getL]
  refine HL_want ?_ ?_
  ·exact wantT (j := 3) (b := false) (t := 6) (c := p0_0 == 5) rfl rfl rfl rfl hb4
  refine o_bin rfl rfl rfl ?_
  try dsimp only [putL, setL, evL, getL]
  refine HL_cons rfl ?_
  refine o_pickF rfl hb4 ?_
  try dsimp only [putL, setL, evL, getL]
  refine HL_cons rfl ?_
  refine o_assign ?_
  try dsimp only [putL, setL, evL, getL]
  refine HL_nil ?_
  refine hK3 _ _ ?_
  refine HT_ret ?_
  exact hQr _ _ [.bool (p0_0 == 7)] ⟨rfl, trivial⟩ (retH (fun r => impl_isPlain_1.post sb s F0 r _ _) (show some _ = some r from H) ⟨rfl, hH.sel [] (by decide)⟩)
def slices_IndexFunc_impl_Re_impl_Re_impl_isPlain_1.l1 (p0 : List ((Int) × (List (Int)))) : Nat → Int → Option (Lo Unit Int)
 | 0, _ => none
 | kf + 1, x52 => if (decide (x52 < (p0.length : Int))) = true then ((rd? p0 x52).bind fun u72 => (impl_isPlain_1.f u72.1 u72.2).bind fun u74 => if u74 = true then ((some x52).bind fun z => some (Lo.ret z)) else (slices_IndexFunc_impl_Re_impl_Re_impl_isPlain_1.l1 p0 kf (IntKind.i64.wrap (x52 + 1)))) else (some (Lo.go ()))
def slices_IndexFunc_impl_Re_impl_Re_impl_isPlain_1.f (p0 : List ((Int) × (List (Int)))) : Option Int := (slices_IndexFunc_impl_Re_impl_Re_impl_isPlain_1.l1 p0 ((((p0.length : Int)) - (0)).toNat + 2) 0).bind fun (o : Lo Unit Int) => match o with | .go () => (some (-1)) | .ret z => some z
def slices_IndexFunc_impl_Re_impl_Re_impl_isPlain_1.post (sb s : St) (F0 : Fp) (r : Int) : Value → St → Prop := fun v s' => v = .int .i64 r ∧ Hp sb s F0 s' []
set_option maxRecDepth 100000 in
set_option maxHeartbeats 4000000 in
theorem slices_IndexFunc_impl_Re_impl_Re_impl_isPlain_1.ok (sb s : St) (F0 : Fp) (A0p : Option Addr) (c0p : Nat) (p0 : List ((Int) × (List (Int)))) (HRp0 : Rd KS139 sb A0p c0p p0) (hH : Hp sb s F0 s []) (r : Int) (H : slices_IndexFunc_impl_Re_impl_Re_impl_isPlain_1.f p0 = some r) : GCall Try.prog 221 #[.slice A0p p0.length c0p, .func (.func 194) #[] #[]] s (slices_IndexFunc_impl_Re_impl_Re_impl_isPlain_1.post sb s F0 r) := by
 refine GCall_ofk [.tmp 4] [.slice A0p p0.length c0p, .func (.func 194) #[] #[], undef, undef, undef, undef, undef, undef, undef, undef, undef, undef, undef, undef, undef, undef, undef, undef, undef] Try.func221 rfl rfl rfl ?_
 intro w Q hQr hQn hQp
 replace H := topE H
 unfold slices_IndexFunc_impl_Re_impl_Re_impl_isPlain_1.f at H
 refine HT_seq_k ?_
 intro K1 hK1
 refine HT_region ?_
 refine HL_cons rfl ?_
 refine o_assign ?_
 try dsimp only [putL, setL, evL, getL]
 refine HL_nil ?_
 refine hK1 _ _ ?_
 refine HT_seq_k ?_
 intro K2 hK2
 refine HT_seq_k ?_
 intro K3 hK3
 refine HT_region ?_
 refine HL_cons rfl ?_
 refine o_move ?_
 try dsimp only [putL, setL, evL, getL]
 refine HL_cons rfl ?_
 refine o_len rfl Try.underlying57 ?_
 try dsimp only [putL, setL, evL, getL]
 refine HL_cons rfl ?_
 refine o_move ?_
 try dsimp only [putL, setL, evL, getL]
 refine HL_nil ?_
 refine hK3 _ _ ?_
 refine joinH H fun G4 hG4 H => ?_
 refine HT_toK (fun l' s' => G4 (.go ()) = some r ∧ l' = [.slice A0p p0.length c0p, .func (.func 194) #[] #[], undef, undef, getL l' 4, getL l' 5, .slice A0p p0.length c0p, .int .i64 (p0.length : Int), getL l' 8, getL l' 9, getL l' 10, getL l' 11, getL l' 12, getL l' 13, getL l' 14, getL l' 15, getL l' 16, getL l' 17, getL l' 18] ∧ Hp sb s F0 s' []) ?_ ?_
 ·intro K4 hK4
  refine HT_block ?_
  refine HT_loopK (fun kf l' s' => ∃ (x52 : Int), (slices_IndexFunc_impl_Re_impl_Re_impl_isPlain_1.l1 p0 kf x52).bind G4 = some r ∧ l' = [.slice A0p p0.length c0p, .func (.func 194) #[] #[], undef, undef, getL l' 4, getL l' 5, .slice A0p p0.length c0p, .int .i64 (p0.length : Int), .int .i64 x52, getL l' 9, getL l' 10, getL l' 11, getL l' 12, getL l' 13, getL l' 14, getL l' 15, getL l' 16, getL l' 17, getL l' 18] ∧ Hp sb s F0 s' []) ((((p0.length : Int)) - (0)).toNat + 2) ⟨0, H, rfl, hH⟩ ?_
  rintro kf l' s65 ⟨x52, H, hl, hH⟩ K65 hK65
  generalize getL l' 4 = j4, getL l' 5 = j5, getL l' 9 = j9, getL l' 10 = j10, getL l' 11 = j11, getL l' 12 = j12, getL l' 13 = j13, getL l' 14 = j14, getL l' 15 = j15, getL l' 16 = j16, getL l' 17 = j17, getL l' 18 = j18 at hl
  subst hl
  cases kf with
  | zero => simp [slices_IndexFunc_impl_Re_impl_Re_impl_isPlain_1.l1] at H
  | succ kf =>
   rw [slices_IndexFunc_impl_Re_impl_Re_impl_isPlain_1.l1] at H
   refine HT_seq_k ?_
   intro K66 hK66
   refine HT_region ?_
   refine HL_cons rfl ?_
   refine o_bin rfl rfl rfl ?_
   try dsimp only [putL, setL, evL, getL]
   refine HL_nil ?_
   refine hK66 _ _ ?_
   refine HT_seq_k ?_
   intro K67 hK67
   rcases Bool.eq_false_or_eq_true (decide (x52 < (p0.length : Int))) with hb68 | hb68
   ·replace H := iteT hb68 H
    refine HT_true (congrArg Value.bool hb68) ?_
    refine HT_skip ?_
    refine hK67 _ _ ?_
    refine HT_seq_k ?_
    intro K69 hK69
    refine HT_block ?_
    refine HT_seq_k ?_
    intro K70 hK70
    refine HT_region ?_
    refine HL_cons rfl ?_
    refine o_move ?_
    try dsimp only [putL, setL, evL, getL]
    refine HL_cons rfl ?_
    refine o_assign ?_
    try dsimp only [putL, setL, evL, getL]
    refine HL_nil ?_
    refine hK70 _ _ ?_
    refine HT_seq_k ?_
    intro K71 hK71
    refine HT_region ?_
    refine HL_cons rfl ?_
    refine o_move ?_
    try dsimp only [putL, setL, evL, getL]
    refine HL_cons rfl ?_
    refine o_move ?_
    try dsimp only [putL, setL, evL, getL]
    refine HL_cons rfl ?_
    refine o_move ?_
    try dsimp only [putL, setL, evL, getL]
    replace H := headE H
    obtain ⟨u72, hu72, H⟩ := H
    obtain ⟨b72, o72, cs72, hr72, hh72, hel72⟩ := Rd.elb HRp0 hu72
    obtain ⟨_, _, rfl, rfl, ⟨A73, c73, rfl, D73⟩⟩ := hr72
    refine HL_cons rfl ?_
    refine hel72 s65 rfl rfl Try.underlying57 tI139 ?_
    try dsimp only [putL, setL, evL, getL]
    refine HL_cons rfl ?_
    refine o_loads' [.int .i64 u72.1, .slice A73 u72.2.length c73] rfl Try.underlying139 rfl tI139 rfl (fun j v hj => (hh72 hH.bs.mono) j v hj) ?_
    try dsimp only [putL, setL, evL, getL]
    replace H := headE H
    obtain ⟨u74, hu74, H⟩ := H
    refine HL_cons rfl ?_
    refine o_callv (first := #[]) (cap := #[]) (args := #[.agg #[.int .i64 u72.1, .slice A73 u72.2.length c73]]) rfl Try.func194 rfl rfl [.agg #[.int .i64 u72.1, .slice A73 u72.2.length c73]] rfl (by simp) (impl_isPlain_1.ok sb s65 no u72.1 A73 c73 u72.2 D73 (Hp.own hH.bs) _ hu74) ?_
    rintro _ s74 ⟨rfl, hD⟩
    replace hH := hH.back0 hD (Up.refl _ _ _)
    clear hD
    dsimp only [addC, setC, rmC, selC, getC] at hH
    try dsimp only [putL, setL, evL, getL]
    refine HL_nil ?_
    refine hK71 _ _ ?_
    rcases Bool.eq_false_or_eq_true u74 with hb75 | hb75
    ·replace H := iteT hb75 H
     refine HT_true (congrArg Value.bool hb75) ?_
     refine HT_seq_k ?_
     intro K76 hK76
     refine HT_region ?_
     refine HL_cons rfl ?_
     refine o_move ?_
     try dsimp only [putL, setL, evL, getL]
     refine HL_cons rfl ?_
     refine o_assign ?_
     try dsimp only [putL, setL, evL, getL]
     refine HL_nil ?_
     refine hK76 _ _ ?_
     refine HT_ret ?_
     replace H := escH (fun z hz => hG4 _ hz) H
     exact hQr _ _ [.int .i64 x52] ⟨rfl, trivial⟩ (retH (fun r => slices_IndexFunc_impl_Re_impl_Re_impl_isPlain_1.post sb s F0 r _ _) (show some _ = some r from H) ⟨rfl, hH⟩)
    ·replace H := iteF hb75 H
     refine HT_false (congrArg Value.bool hb75) ?_
     refine HT_skip ?_
     refine hK69 _ _ ?_
     refine HT_region ?_
     refine HL_cons rfl ?_
     refine o_bin rfl rfl rfl ?_
     try dsimp only [putL, setL, evL, getL]
     refine HL_cons rfl ?_
     refine o_move ?_
     try dsimp only [putL, setL, evL, getL]
     refine HL_nil ?_
     exact hK65 _ _ ⟨kf, Nat.lt_succ_self kf, IntKind.i64.wrap (x52 + 1), H, rfl, hH⟩
   ·replace H := iteF hb68 H
    refine HT_false (congrArg Value.bool hb68) ?_
    refine HT_exit ?_
    exact hK4 _ _ ⟨H, rfl, hH⟩
 ·rintro l' s77 ⟨H, hl, hH⟩
  generalize getL l' 4 = j4, getL l' 5 = j5, getL l' 8 = j8, getL l' 9 = j9, getL l' 10 = j10, getL l' 11 = j11, getL l' 12 = j12, getL l' 13 = j13, getL l' 14 = j14, getL l' 15 = j15, getL l' 16 = j16, getL l' 17 = j17, getL l' 18 = j18 at hl
  subst hl
  replace H := hG4 _ H
  try dsimp only at H
  refine hK2 _ _ ?_
  refine HT_seq_k ?_
  intro K78 hK78
  refine HT_region ?_
  refine HL_cons rfl ?_
  refine o_assign ?_
  try dsimp only [putL, setL, evL, getL]
  refine HL_nil ?_
  refine hK78 _ _ ?_
  refine HT_ret ?_
  exact hQr _ _ [.int .i64 (-1)] ⟨rfl, trivial⟩ (retH (fun r => slices_IndexFunc_impl_Re_impl_Re_impl_isPlain_1.post sb s F0 r _ _) (show some _ = some r from H) ⟨rfl, hH⟩)
def slices_ContainsFunc_impl_Re_impl_Re_impl_isPlain_1.f (p0 : List ((Int) × (List (Int)))) : Option Bool := (slices_IndexFunc_impl_Re_impl_Re_impl_isPlain_1.f p0).bind fun u3 => some (decide (u3 ≥ 0))
def slices_ContainsFunc_impl_Re_impl_Re_impl_isPlain_1.post (sb s : St) (F0 : Fp) (r : Bool) : Value → St → Prop := fun v s' => v = .bool r ∧ Hp sb s F0 s' []
set_option maxRecDepth 100000 in
set_option maxHeartbeats 4000000 in
theorem slices_ContainsFunc_impl_Re_impl_Re_impl_isPlain_1.ok (sb s : St) (F0 : Fp) (A0p : Option Addr) (c0p : Nat) (p0 : List ((Int) × (List (Int)))) (HRp0 : Rd KS139 sb A0p c0p p0) (hH : Hp sb s F0 s []) (r : Bool) (H : slices_ContainsFunc_impl_Re_impl_Re_impl_isPlain_1.f p0 = some r) : GCall Try.prog 190 #[.slice A0p p0.length c0p, .func (.func 194) #[] #[]] s (slices_ContainsFunc_impl_Re_impl_Re_impl_isPlain_1.post sb s F0 r) := by
 refine GCall_ofk [.tmp 4] [.slice A0p p0.length c0p, .func (.func 194) #[] #[], undef, undef, undef, undef, undef, undef, undef] Try.func190 rfl rfl rfl ?_
 intro w Q hQr hQn hQp
 replace H := topE H
 unfold slices_ContainsFunc_impl_Re_impl_Re_impl_isPlain_1.f at H
 refine HT_seq_k ?_
 intro K1 hK1
 refine HT_region ?_
 refine HL_cons rfl ?_
 refine o_assign ?_
 try dsimp only [putL, setL, evL, getL]
 refine HL_nil ?_
 refine hK1 _ _ ?_
 refine HT_seq_k ?_
 intro K2 hK2
 refine HT_region ?_
 refine HL_cons rfl ?_
 refine o_move ?_
 try dsimp only [putL, setL, evL, getL]
 refine HL_cons rfl ?_
 refine o_move ?_
 try dsimp only [putL, setL, evL, getL]
 replace H := headE H
 obtain ⟨u3, hu3, H⟩ := H
 refine HL_cons rfl ?_
 refine o_call (args := #[.slice A0p p0.length c0p, .func (.func 194) #[] #[]]) Try.func221 rfl rfl rfl (slices_IndexFunc_impl_Re_impl_Re_impl_isPlain_1.ok sb s no A0p c0p p0 HRp0 (Hp.own hH.bs) _ hu3) ?_
 rintro _ s3 ⟨rfl, hD⟩
 replace hH := hH.back0 hD (Up.refl _ _ _)
 clear hD
 dsimp only [addC, setC, rmC, selC, getC] at hH
 try dsimp only [putL, setL, evL, getL]
 refine HL_cons rfl ?_
 refine o_bin rfl rfl rfl ?_
 try dsimp only [putL, setL, evL, getL]
 refine HL_cons rfl ?_
 refine o_assign ?_
 try dsimp only [putL, setL, evL, getL]
 refine HL_nil ?_
 refine hK2 _ _ ?_
 refine HT_ret ?_
 exact hQr _ _ [.bool (decide (u3 ≥ 0))] ⟨rfl, trivial⟩ (retH (fun r => slices_ContainsFunc_impl_Re_impl_Re_impl_isPlain_1.post sb s F0 r _ _) (show some _ = some r from H) ⟨rfl, hH⟩)
def impl_isPlain.f (p0 : List ((Int) × (List (Int)))) : Option Bool := (slices_ContainsFunc_impl_Re_impl_Re_impl_isPlain_1.f p0).bind fun u3 => some (!u3)
def impl_isPlain.post (sb s : St) (F0 : Fp) (r : Bool) : Value → St → Prop := fun v s' => v = .bool r ∧ Hp sb s F0 s' []
set_option maxRecDepth 100000 in
set_option maxHeartbeats 4000000 in
theorem impl_isPlain.ok (sb s : St) (F0 : Fp) (A0p : Option Addr) (c0p : Nat) (p0 : List ((Int) × (List (Int)))) (HRp0 : Rd KS139 sb A0p c0p p0) (hH : Hp sb s F0 s []) (r : Bool) (H : impl_isPlain.f p0 = some r) : GCall Try.prog 132 #[.slice A0p p0.length c0p] s (impl_isPlain.post sb s F0 r) := by
 refine GCall_ofk [.tmp 2] [.slice A0p p0.length c0p, undef, undef, undef, undef, undef] Try.func132 rfl rfl rfl ?_
 intro w Q hQr hQn hQp
 replace H := topE H
 unfold impl_isPlain.f at H
 refine HT_seq_k ?_
 intro K1 hK1
 refine HT_region ?_
 refine HL_cons rfl ?_
 refine o_assign ?_
 try dsimp only [putL, setL, evL, getL]
 refine HL_nil ?_
 refine hK1 _ _ ?_
 refine HT_seq_k ?_
 intro K2 hK2
 refine HT_region ?_
 refine HL_cons rfl ?_
 refine o_move ?_
 try dsimp only [putL, setL, evL, getL]
 replace H := headE H
 obtain ⟨u3, hu3, H⟩ := H
 refine HL_cons rfl ?_
 refine o_call (args := #[.slice A0p p0.length c0p, .func (.func 194) #[] #[]]) Try.func190 rfl rfl rfl (slices_ContainsFunc_impl_Re_impl_Re_impl_isPlain_1.ok sb s no A0p c0p p0 HRp0 (Hp.own hH.bs) _ hu3) ?_
 rintro _ s3 ⟨rfl, hD⟩
 replace hH := hH.back0 hD (Up.refl _ _ _)
 clear hD
 dsimp only [addC, setC, rmC, selC, getC] at hH
 try dsimp only [putL, setL, evL, getL]
 refine HL_cons rfl ?_
 refine o_not rfl ?_
 try dsimp only [putL, setL, evL, getL]
 refine HL_cons rfl ?_
 refine o_assign ?_
 try dsimp only [putL, setL, evL, getL]
 refine HL_nil ?_
 refine hK2 _ _ ?_
 refine HT_ret ?_
 exact hQr _ _ [.bool (!u3)] ⟨rfl, trivial⟩ (retH (fun r => impl_isPlain.post sb s F0 r _ _) (show some _ = some r from H) ⟨rfl, hH⟩)
def impl_areRunes_1.f (p0 : Int) : Option Bool := (impl_GoodRune.f p0).bind fun u3 => some (!u3)
def impl_areRunes_1.post (sb s : St) (F0 : Fp) (r : Bool) : Value → St → Prop := fun v s' => v = .bool r ∧ Hp sb s F0 s' []
set_option maxRecDepth 100000 in
set_option maxHeartbeats 4000000 in
theorem impl_areRunes_1.ok (sb s : St) (F0 : Fp) (p0 : Int) (hH : Hp sb s F0 s []) (r : Bool) (H : impl_areRunes_1.f p0 = some r) : GCall Try.prog 186 #[.int .i64 p0] s (impl_areRunes_1.post sb s F0 r) := by
 refine GCall_ofk [.tmp 2] [.int .i64 p0, undef, undef, undef, undef, undef] Try.func186 rfl rfl rfl ?_
 intro w Q hQr hQn hQp
 replace H := topE H
 unfold impl_areRunes_1.f at H
 refine HT_seq_k ?_
 intro K1 hK1
 refine HT_region ?_
 refine HL_cons rfl ?_
 refine o_assign ?_
 try dsimp only [putL, setL, evL, getL]
 refine HL_nil ?_
 refine hK1 _ _ ?_
 refine HT_seq_k ?_
 intro K2 hK2
 refine HT_region ?_
 refine HL_cons rfl ?_
 refine o_move ?_
 try dsimp only [putL, setL, evL, getL]
 replace H := headE H
 obtain ⟨u3, hu3, H⟩ := H
 refine HL_cons rfl ?_
 refine o_call (args := #[.int .i64 p0]) Try.func146 rfl rfl rfl (impl_GoodRune.ok sb s no p0 (Hp.own hH.bs) _ hu3) ?_
 rintro _ s3 ⟨rfl, hD⟩
 replace hH := hH.back0 hD (Up.refl _ _ _)
 clear hD
 dsimp only [addC, setC, rmC, selC, getC] at hH
 try dsimp only [putL, setL, evL, getL]
 refine HL_cons rfl ?_
 refine o_not rfl ?_
 try dsimp only [putL, setL, evL, getL]
 refine HL_cons rfl ?_
 refine o_assign ?_
 try dsimp only [putL, setL, evL, getL]
 refine HL_nil ?_
 refine hK2 _ _ ?_
 refine HT_ret ?_
 exact hQr _ _ [.bool (!u3)] ⟨rfl, trivial⟩ (retH (fun r => impl_areRunes_1.post sb s F0 r _ _) (show some _ = some r from H) ⟨rfl, hH⟩)
def slices_IndexFunc_int_int_impl_areRunes_1.l1 (p0 : List (Int)) : Nat → Int → Option (Lo Unit Int)
 | 0, _ => none
 | kf + 1, x48 => if (decide (x48 < (p0.length : Int))) = true then ((rd? p0 x48).bind fun u67 => (impl_areRunes_1.f u67).bind fun u68 => if u68 = true then ((some x48).bind fun z => some (Lo.ret z)) else (slices_IndexFunc_int_int_impl_areRunes_1.l1 p0 kf (IntKind.i64.wrap (x48 + 1)))) else (some (Lo.go ()))
def slices_IndexFunc_int_int_impl_areRunes_1.f (p0 : List (Int)) : Option Int := (slices_IndexFunc_int_int_impl_areRunes_1.l1 p0 ((((p0.length : Int)) - (0)).toNat + 2) 0).bind fun (o : Lo Unit Int) => match o with | .go () => (some (-1)) | .ret z => some z
def slices_IndexFunc_int_int_impl_areRunes_1.post (sb s : St) (F0 : Fp) (r : Int) : Value → St → Prop := fun v s' => v = .int .i64 r ∧ Hp sb s F0 s' []
set_option maxRecDepth 100000 in
set_option maxHeartbeats 4000000 in
theorem slices_IndexFunc_int_int_impl_areRunes_1.ok (sb s : St) (F0 : Fp) (A0p : Option Addr) (c0p : Nat) (p0 : List (Int)) (HRp0 : Rd KI sb A0p c0p p0) (hH : Hp sb s F0 s []) (r : Int) (H : slices_IndexFunc_int_int_impl_areRunes_1.f p0 = some r) : GCall Try.prog 184 #[.slice A0p p0.length c0p, .func (.func 186) #[] #[]] s (slices_IndexFunc_int_int_impl_areRunes_1.post sb s F0 r) := by
 refine GCall_ofk [.tmp 4] [.slice A0p p0.length c0p, .func (.func 186) #[] #[], undef, undef, undef, undef, undef, undef, undef, undef, undef, undef, undef, undef, undef, undef, undef, undef, undef] Try.func184 rfl rfl rfl ?_
 intro w Q hQr hQn hQp
 replace H := topE H
 unfold slices_IndexFunc_int_int_impl_areRunes_1.f at H
 refine HT_seq_k ?_
 intro K1 hK1
 refine HT_region ?_
 refine HL_cons rfl ?_
 refine o_assign ?_
 try dsimp only [putL, setL, evL, getL]
 refine HL_nil ?_
 refine hK1 _ _ ?_
 refine HT_seq_k ?_
 intro K2 hK2
 refine HT_seq_k ?_
 intro K3 hK3
 refine HT_region ?_
 refine HL_cons rfl ?_
 refine o_move ?_
 try dsimp only [putL, setL, evL, getL]
 refine HL_cons rfl ?_
 refine o_len rfl Try.underlying24 ?_
 try dsimp only [putL, setL, evL, getL]
 refine HL_cons rfl ?_
 refine o_move ?_
 try dsimp only [putL, setL, evL, getL]
 refine HL_nil ?_
 refine hK3 _ _ ?_
 refine joinH H fun G4 hG4 H => ?_
 refine HT_toK (fun l' s' => G4 (.go ()) = some r ∧ l' = [.slice A0p p0.length c0p, .func (.func 186) #[] #[], undef, undef, getL l' 4, getL l' 5, .slice A0p p0.length c0p, .int .i64 (p0.length : Int), getL l' 8, getL l' 9, getL l' 10, getL l' 11, getL l' 12, getL l' 13, getL l' 14, getL l' 15, getL l' 16, getL l' 17, getL l' 18] ∧ Hp sb s F0 s' []) ?_ ?_
 ·intro K4 hK4
  refine HT_block ?_
  refine HT_loopK (fun kf l' s' => ∃ (x48 : Int), (slices_IndexFunc_int_int_impl_areRunes_1.l1 p0 kf x48).bind G4 = some r ∧ l' = [.slice A0p p0.length c0p, .func (.func 186) #[] #[], undef, undef, getL l' 4, getL l' 5, .slice A0p p0.length c0p, .int .i64 (p0.length : Int), .int .i64 x48, getL l' 9, getL l' 10, getL l' 11, getL l' 12, getL l' 13, getL l' 14, getL l' 15, getL l' 16, getL l' 17, getL l' 18] ∧ Hp sb s F0 s' []) ((((p0.length : Int)) - (0)).toNat + 2) ⟨0, H, rfl, hH⟩ ?_
  rintro kf l' s60 ⟨x48, H, hl, hH⟩ K60 hK60
  generalize getL l' 4 = j4, getL l' 5 = j5, getL l' 9 = j9, getL l' 10 = j10, getL l' 11 = j11, getL l' 12 = j12, getL l' 13 = j13, getL l' 14 = j14, getL l' 15 = j15, getL l' 16 = j16, getL l' 17 = j17, getL l' 18 = j18 at hl
  subst hl
  cases kf with
  | zero => simp [slices_IndexFunc_int_int_impl_areRunes_1.l1] at H
  | succ kf =>
   rw [slices_IndexFunc_int_int_impl_areRunes_1.l1] at H
   refine HT_seq_k ?_
   intro K61 hK61
   refine HT_region ?_
   refine HL_cons rfl ?_
   refine o_bin rfl rfl rfl ?_
   try dsimp only [putL, setL, evL, getL]
   refine HL_nil ?_
   refine hK61 _ _ ?_
   refine HT_seq_k ?_
   intro K62 hK62
   rcases Bool.eq_false_or_eq_true (decide (x48 < (p0.length : Int))) with hb63 | hb63
   ·replace H := iteT hb63 H
    refine HT_true (congrArg Value.bool hb63) ?_
    refine HT_skip ?_
    refine hK62 _ _ ?_
    refine HT_seq_k ?_
    intro K64 hK64
    refine HT_block ?_
    refine HT_seq_k ?_
    intro K65 hK65
    refine HT_region ?_
    refine HL_cons rfl ?_
    refine o_move ?_
    try dsimp only [putL, setL, evL, getL]
    refine HL_cons rfl ?_
    refine o_assign ?_
    try dsimp only [putL, setL, evL, getL]
    refine HL_nil ?_
    refine hK65 _ _ ?_
    refine HT_seq_k ?_
    intro K66 hK66
    refine HT_region ?_
    refine HL_cons rfl ?_
    refine o_move ?_
    try dsimp only [putL, setL, evL, getL]
    refine HL_cons rfl ?_
    refine o_move ?_
    try dsimp only [putL, setL, evL, getL]
    refine HL_cons rfl ?_
    refine o_move ?_
    try dsimp only [putL, setL, evL, getL]
    replace H := headE H
    obtain ⟨u67, hu67, H⟩ := H
    obtain ⟨b67, o67, cs67, hr67, hh67, hel67⟩ := Rd.elb HRp0 hu67
    obtain rfl := hr67
    refine HL_cons rfl ?_
    refine hel67 s60 rfl rfl Try.underlying24 tI3 ?_
    try dsimp only [putL, setL, evL, getL]
    refine HL_cons rfl ?_
    refine o_load' rfl Try.underlying3 rfl ((hh67 hH.bs.mono) 0 _ rfl) ?_
    try dsimp only [putL, setL, evL, getL]
    replace H := headE H
    obtain ⟨u68, hu68, H⟩ := H
    refine HL_cons rfl ?_
    refine o_callv (first := #[]) (cap := #[]) (args := #[.int .i64 u67]) rfl Try.func186 rfl rfl [.int .i64 u67] rfl (by simp) (impl_areRunes_1.ok sb s60 no u67 (Hp.own hH.bs) _ hu68) ?_
    rintro _ s68 ⟨rfl, hD⟩
    replace hH := hH.back0 hD (Up.refl _ _ _)
    clear hD
    dsimp only [addC, setC, rmC, selC, getC] at hH
    try dsimp only [putL, setL, evL, getL]
    refine HL_nil ?_
    refine hK66 _ _ ?_
    rcases Bool.eq_false_or_eq_true u68 with hb69 | hb69
    ·replace H := iteT hb69 H
     refine HT_true (congrArg Value.bool hb69) ?_
     refine HT_seq_k ?_
     intro K70 hK70
     refine HT_region ?_
     refine HL_cons rfl ?_
     refine o_move ?_
     try dsimp only [putL, setL, evL, getL]
     refine HL_cons rfl ?_
     refine o_assign ?_
     try dsimp only [putL, setL, evL, getL]
     refine HL_nil ?_
     refine hK70 _ _ ?_
     refine HT_ret ?_
     replace H := escH (fun z hz => hG4 _ hz) H
     exact hQr _ _ [.int .i64 x48] ⟨rfl, trivial⟩ (retH (fun r => slices_IndexFunc_int_int_impl_areRunes_1.post sb s F0 r _ _) (show some _ = some r from H) ⟨rfl, hH⟩)
    ·replace H := iteF hb69 H
     refine HT_false (congrArg Value.bool hb69) ?_
     refine HT_skip ?_
     refine hK64 _ _ ?_
     refine HT_region ?_
     refine HL_cons rfl ?_
     refine o_bin rfl rfl rfl ?_
     try dsimp only [putL, setL, evL, getL]
     refine HL_cons rfl ?_
     refine o_move ?_
     try dsimp only [putL, setL, evL, getL]
     refine HL_nil ?_
     exact hK60 _ _ ⟨kf, Nat.lt_succ_self kf, IntKind.i64.wrap (x48 + 1), H, rfl, hH⟩
   ·replace H := iteF hb63 H
    refine HT_false (congrArg Value.bool hb63) ?_
    refine HT_exit ?_
    exact hK4 _ _ ⟨H, rfl, hH⟩
 ·rintro l' s71 ⟨H, hl, hH⟩
  generalize getL l' 4 = j4, getL l' 5 = j5, getL l' 8 = j8, getL l' 9 = j9, getL l' 10 = j10, getL l' 11 = j11, getL l' 12 = j12, getL l' 13 = j13, getL l' 14 = j14, getL l' 15 = j15, getL l' 16 = j16, getL l' 17 = j17, getL l' 18 = j18 at hl
  subst hl
  replace H := hG4 _ H
  try dsimp only at H
  refine hK2 _ _ ?_
  refine HT_seq_k ?_
  intro K72 hK72
  refine HT_region ?_
  refine HL_cons rfl ?_
  refine o_assign ?_
  try dsimp only [putL, setL, evL, getL]
  refine HL_nil ?_
  refine hK72 _ _ ?_
  refine HT_ret ?_
  exact hQr _ _ [.int .i64 (-1)] ⟨rfl, trivial⟩ (retH (fun r => slices_IndexFunc_int_int_impl_areRunes_1.post sb s F0 r _ _) (show some _ = some r from H) ⟨rfl, hH⟩)
def slices_ContainsFunc_int_int_impl_areRunes_1.f (p0 : List (Int)) : Option Bool := (slices_IndexFunc_int_int_impl_areRunes_1.f p0).bind fun u3 => some (decide (u3 ≥ 0))
def slices_ContainsFunc_int_int_impl_areRunes_1.post (sb s : St) (F0 : Fp) (r : Bool) : Value → St → Prop := fun v s' => v = .bool r ∧ Hp sb s F0 s' []
set_option maxRecDepth 100000 in
set_option maxHeartbeats 4000000 in
theorem slices_ContainsFunc_int_int_impl_areRunes_1.ok (sb s : St) (F0 : Fp) (A0p : Option Addr) (c0p : Nat) (p0 : List (Int)) (HRp0 : Rd KI sb A0p c0p p0) (hH : Hp sb s F0 s []) (r : Bool) (H : slices_ContainsFunc_int_int_impl_areRunes_1.f p0 = some r) : GCall Try.prog 114 #[.slice A0p p0.length c0p, .func (.func 186) #[] #[]] s (slices_ContainsFunc_int_int_impl_areRunes_1.post sb s F0 r) := by
 refine GCall_ofk [.tmp 4] [.slice A0p p0.length c0p, .func (.func 186) #[] #[], undef, undef, undef, undef, undef, undef, undef] Try.func114 rfl rfl rfl ?_
 intro w Q hQr hQn hQp
 replace H := topE H
 unfold slices_ContainsFunc_int_int_impl_areRunes_1.f at H
 refine HT_seq_k ?_
 intro K1 hK1
 refine HT_region ?_
 refine HL_cons rfl ?_
 refine o_assign ?_
 try dsimp only [putL, setL, evL, getL]
 refine HL_nil ?_
 refine hK1 _ _ ?_
 refine HT_seq_k ?_
 intro K2 hK2
 refine HT_region ?_
 refine HL_cons rfl ?_
 refine o_move ?_
 try dsimp only [putL, setL, evL, getL]
 refine HL_cons rfl ?_
 refine o_move ?_
 try dsimp only [putL, setL, evL, getL]
 replace H := headE H
 obtain ⟨u3, hu3, H⟩ := H
 refine HL_cons rfl ?_
 refine o_call (args := #[.slice A0p p0.length c0p, .func (.func 186) #[] #[]]) Try.func184 rfl rfl rfl (slices_IndexFunc_int_int_impl_areRunes_1.ok sb s no A0p c0p p0 HRp0 (Hp.own hH.bs) _ hu3) ?_
 rintro _ s3 ⟨rfl, hD⟩
 replace hH := hH.back0 hD (Up.refl _ _ _)
 clear hD
 dsimp only [addC, setC, rmC, selC, getC] at hH
 try dsimp only [putL, setL, evL, getL]
 refine HL_cons rfl ?_
 refine o_bin rfl rfl rfl ?_
 try dsimp only [putL, setL, evL, getL]
 refine HL_cons rfl ?_
 refine o_assign ?_
 try dsimp only [putL, setL, evL, getL]
 refine HL_nil ?_
 refine hK2 _ _ ?_
 refine HT_ret ?_
 exact hQr _ _ [.bool (decide (u3 ≥ 0))] ⟨rfl, trivial⟩ (retH (fun r => slices_ContainsFunc_int_int_impl_areRunes_1.post sb s F0 r _ _) (show some _ = some r from H) ⟨rfl, hH⟩)
def impl_areRunes.f (p0 : List (Int)) (p1 : Int) : Option Bool := if (decide ((p0.length : Int) ≤ p1)) = true then ((slices_ContainsFunc_int_int_impl_areRunes_1.f p0).bind fun u4 => some (!u4)) else (some false)
def impl_areRunes.post (sb s : St) (F0 : Fp) (r : Bool) : Value → St → Prop := fun v s' => v = .bool r ∧ Hp sb s F0 s' []
set_option maxRecDepth 100000 in
set_option maxHeartbeats 4000000 in
theorem impl_areRunes.ok (sb s : St) (F0 : Fp) (A0p : Option Addr) (c0p : Nat) (p0 : List (Int)) (p1 : Int) (HRp0 : Rd KI sb A0p c0p p0) (hH : Hp sb s F0 s []) (r : Bool) (H : impl_areRunes.f p0 p1 = some r) : GCall Try.prog 118 #[.slice A0p p0.length c0p, .int .i64 p1] s (impl_areRunes.post sb s F0 r) := by
 refine GCall_ofk [.tmp 4] [.slice A0p p0.length c0p, .int .i64 p1, undef, undef, undef, undef, undef, undef, undef, undef, undef, undef, undef, undef] Try.func118 rfl rfl rfl ?_
 intro w Q hQr hQn hQp
 replace H := topE H
 unfold impl_areRunes.f at H
 refine HT_seq_k ?_
 intro K1 hK1
 refine HT_region ?_
 refine HL_cons rfl ?_
 refine o_assign ?_
 try dsimp only [putL, setL, evL, getL]
 refine HL_nil ?_
 refine hK1 _ _ ?_
 refine HT_seq_k ?_
 intro K2 hK2
 refine HT_region ?_
 refine HL_cons rfl ?_
 refine o_move ?_
 try dsimp only [putL, setL, evL, getL]
 refine HL_cons rfl ?_
 refine o_len rfl Try.underlying24 ?_
 try dsimp only [putL, setL, evL, getL]
 refine HL_cons rfl ?_
 refine o_move ?_
 try dsimp only [putL, setL, evL, getL]
 refine HL_cons rfl ?_
 refine o_bin rfl rfl rfl ?_
 try dsimp only [putL, setL, evL, getL]
 refine HL_cons rfl ?_
 refine o_move ?_
 try dsimp only [putL, setL, evL, getL]
 rcases Bool.eq_false_or_eq_true (decide ((p0.length : Int) ≤ p1)) with hb3 | hb3
 ·replace H := iteT hb3 H
  refine HL_want ?_ ?_
  ·exact wantT (j := 4) (b := true) (t := 9) (c := decide ((p0.length : Int) ≤ p1)) rfl rfl rfl rfl hb3
  refine o_move ?_
  try dsimp only [putL, setL, evL, getL]
  replace H := headE H
  obtain ⟨u4, hu4, H⟩ := H
  refine HL_want ?_ ?_
  ·exact wantT (j := 4) (b := true) (t := 9) (c := decide ((p0.length : Int) ≤ p1)) rfl rfl rfl rfl hb3
  refine o_call (args := #[.slice A0p p0.length c0p, .func (.func 186) #[] #[]]) Try.func114 rfl rfl rfl (slices_ContainsFunc_int_int_impl_areRunes_1.ok sb s no A0p c0p p0 HRp0 (Hp.own hH.bs) _ hu4) ?_
  rintro _ s4 ⟨rfl, hD⟩
  replace hH := hH.back0 hD (Up.refl _ _ _)
  clear hD
  dsimp only [addC, setC, rmC, selC, getC] at hH
  try dsimp only [putL, setL, evL, getL]
  refine HL_want ?_ ?_
  ·exact wantT (j := 4) (b := true) (t := 9) (c := decide ((p0.length : Int) ≤ p1)) rfl rfl rfl rfl hb3
  refine o_not rfl ?_
  try dsimp only [putL, setL, evL, getL]
  refine HL_cons rfl ?_
  refine o_pickT rfl hb3 ?_
  try dsimp only [putL, setL, evL, getL]
  refine HL_cons rfl ?_
  refine o_assign ?_
  try dsimp only [putL, setL, evL, getL]
  refine HL_nil ?_
  refine hK2 _ _ ?_
  refine HT_ret ?_
  exact hQr _ _ [.bool (!u4)] ⟨rfl, trivial⟩ (retH (fun r => impl_areRunes.post sb s F0 r _ _) (show some _ = some r from H) ⟨rfl, hH⟩)
 ·replace H := iteF hb3 H
  refine HL_skip ?_ ?_
  ·exact wantF (j := 4) (b := true) (t := 9) (c := decide ((p0.length : Int) ≤ p1)) rfl rfl rfl rfl hb3
  try dsimp only [putL, setL, evL, getL]
  refine HL_skip ?_ ?_
  ·exact wantF (j := 4) (b := true) (t := 9) (c := decide ((p0.length : Int) ≤ p1)) rfl rfl rfl rfl hb3
  try dsimp only [putL, setL, evL, getL]
  refine HL_skip ?_ ?_
  ·exact wantF (j := 4) (b := true) (t := 9) (c := decide ((p0.length : Int) ≤ p1)) rfl rfl rfl rfl hb3
  try dsimp only [putL, setL, evL, getL]
  refine HL_cons rfl ?_
  refine o_pickF rfl hb3 ?_
  try dsimp only [putL, setL, evL, getL]
  refine HL_cons rfl ?_
  refine o_assign ?_
  try dsimp only [putL, setL, evL, getL]
  refine HL_nil ?_
  refine hK2 _ _ ?_
  refine HT_ret ?_
  exact hQr _ _ [.bool false] ⟨rfl, trivial⟩ (retH (fun r => impl_areRunes.post sb s F0 r _ _) (show some _ = some r from H) ⟨rfl, hH⟩)
def impl_canParse.f (p0 : List ((Int) × (List (Int)))) (p1 : List (Int)) : Option Bool := (impl_GoodRe.f p0).bind fun u3 => if u3 = true then ((impl_isPlain.f p0).bind fun u5 => if u5 = true then ((impl_areRunes.f p1 40).bind fun u7 => some u7) else (some false)) else (some false)
def impl_canParse.post (sb s : St) (F0 : Fp) (r : Bool) : Value → St → Prop := fun v s' => v = .bool r ∧ Hp sb s F0 s' []
set_option maxRecDepth 100000 in
set_option maxHeartbeats 4000000 in
theorem impl_canParse.ok (sb s : St) (F0 : Fp) (A0p : Option Addr) (c0p : Nat) (p0 : List ((Int) × (List (Int)))) (A1p : Option Addr) (c1p : Nat) (p1 : List (Int)) (HRp0 : Rd KS139 sb A0p c0p p0) (HRp1 : Rd KI sb A1p c1p p1) (hH : Hp sb s F0 s []) (r : Bool) (H : impl_canParse.f p0 p1 = some r) : GCall Try.prog 152 #[.slice A0p p0.length c0p, .slice A1p p1.length c1p] s (impl_canParse.post sb s F0 r) := by
 refine GCall_ofk [.tmp 4] [.slice A0p p0.length c0p, .slice A1p p1.length c1p, undef, undef, undef, undef, undef, undef, undef, undef, undef, undef, undef, undef, undef] Try.func152 rfl rfl rfl ?_
 intro w Q hQr hQn hQp
 replace H := topE H
 unfold impl_canParse.f at H
 refine HT_seq_k ?_
 intro K1 hK1
 refine HT_region ?_
 refine HL_cons rfl ?_
 refine o_assign ?_
 try dsimp only [putL, setL, evL, getL]
 refine HL_nil ?_
 refine hK1 _ _ ?_
 refine HT_seq_k ?_
 intro K2 hK2
 refine HT_region ?_
 refine HL_cons rfl ?_
 refine o_move ?_
 try dsimp only [putL, setL, evL, getL]
 replace H := headE H
 obtain ⟨u3, hu3, H⟩ := H
 refine HL_cons rfl ?_
 refine o_call (args := #[.slice A0p p0.length c0p]) Try.func131 rfl rfl rfl (impl_GoodRe.ok sb s no A0p c0p p0 HRp0 (Hp.own hH.bs) _ hu3) ?_
 rintro _ s3 ⟨rfl, hD⟩
 replace hH := hH.back0 hD (Up.refl _ _ _)
 clear hD
 dsimp only [addC, setC, rmC, selC, getC] at hH
 try dsimp only [putL, setL, evL, getL]
 refine HL_cons rfl ?_
 refine o_move ?_
 try dsimp only [putL, setL, evL, getL]
 rcases Bool.eq_false_or_eq_true u3 with hb4 | hb4
 ·replace H := iteT hb4 H
  refine HL_want ?_ ?_
  ·exact wantT (j := 2) (b := true) (t := 7) (c := u3) rfl rfl rfl rfl hb4
  refine o_move ?_
  try dsimp only [putL, setL, evL, getL]
  replace H := headE H
  obtain ⟨u5, hu5, H⟩ := H
  refine HL_want ?_ ?_
  ·exact wantT (j := 2) (b := true) (t := 7) (c := u3) rfl rfl rfl rfl hb4
  refine o_call (args := #[.slice A0p p0.length c0p]) Try.func132 rfl rfl rfl (impl_isPlain.ok sb s3 no A0p c0p p0 HRp0 (Hp.own hH.bs) _ hu5) ?_
  rintro _ s5 ⟨rfl, hD⟩
  replace hH := hH.back0 hD (Up.refl _ _ _)
  clear hD
  dsimp only [addC, setC, rmC, selC, getC] at hH
  try dsimp only [putL, setL, evL, getL]
  refine HL_cons rfl ?_
  refine o_pickT rfl hb4 ?_
  try dsimp only [putL, setL, evL, getL]
  refine HL_cons rfl ?_
  refine o_move ?_
  try dsimp only [putL, setL, evL, getL]
  rcases Bool.eq_false_or_eq_true u5 with hb6 | hb6
  ·replace H := iteT hb6 H
   refine HL_want ?_ ?_
   ·exact wantT (j := 6) (b := true) (t := 11) (c := u5) rfl rfl rfl rfl hb6
   refine o_move ?_
   try dsimp only [putL, setL, evL, getL]
   replace H := headE H
   obtain ⟨u7, hu7, H⟩ := H
   refine HL_want ?_ ?_
   ·exact wantT (j := 6) (b := true) (t := 11) (c := u5) rfl rfl rfl rfl hb6
   refine o_call (args := #[.slice A1p p1.length c1p, .int .i64 40]) Try.func118 rfl rfl rfl (impl_areRunes.ok sb s5 no A1p c1p p1 40 HRp1 (Hp.own hH.bs) _ hu7) ?_
   rintro _ s7 ⟨rfl, hD⟩
   replace hH := hH.back0 hD (Up.refl _ _ _)
   clear hD
   dsimp only [addC, setC, rmC, selC, getC] at hH
   try dsimp only [putL, setL, evL, getL]
   refine HL_cons rfl ?_
   refine o_pickT rfl hb6 ?_
   try dsimp only [putL, setL, evL, getL]
   refine HL_cons rfl ?_
   refine o_assign ?_
   try dsimp only [putL, setL, evL, getL]
   refine HL_nil ?_
   refine hK2 _ _ ?_
   refine HT_ret ?_
   exact hQr _ _ [.bool u7] ⟨rfl, trivial⟩ (retH (fun r => impl_canParse.post sb s F0 r _ _) (show some _ = some r from H) ⟨rfl, hH⟩)
  ·replace H := iteF hb6 H
   refine HL_skip ?_ ?_
   ·exact wantF (j := 6) (b := true) (t := 11) (c := u5) rfl rfl rfl rfl hb6
   try dsimp only [putL, setL, evL, getL]
   refine HL_skip ?_ ?_
   ·exact wantF (j := 6) (b := true) (t := 11) (c := u5) rfl rfl rfl rfl hb6
   try dsimp only [putL, setL, evL, getL]
   refine HL_cons rfl ?_
   refine o_pickF rfl hb6 ?_
   try dsimp only [putL, setL, evL, getL]
   refine HL_cons rfl ?_
   refine o_assign ?_
   try dsimp only [putL, setL, evL, getL]
   refine HL_nil ?_
   refine hK2 _ _ ?_
   refine HT_ret ?_
   exact hQr _ _ [.bool false] ⟨rfl, trivial⟩ (retH (fun r => impl_canParse.post sb s F0 r _ _) (show some _ = some r from H) ⟨rfl, hH⟩)
 ·replace H := iteF hb4 H
  refine HL_skip ?_ ?_
  ·exact wantF (j := 2) (b := true) (t := 7) (c := u3) rfl rfl rfl rfl hb4
  try dsimp only [putL, setL, evL, getL]
  refine HL_skip ?_ ?_
  ·exact wantF (j := 2) (b := true) (t := 7) (c := u3) rfl rfl rfl rfl hb4
  try dsimp only [putL, setL, evL, getL]
  refine HL_cons rfl ?_
  refine o_pickF rfl hb4 ?_
  try dsimp only [putL, setL, evL, getL]
  refine HL_cons rfl ?_
  refine o_move ?_
  try dsimp only [putL, setL, evL, getL]
  refine HL_skip ?_ ?_
  ·exact wantF (j := 6) (b := true) (t := 11) (c := false) rfl rfl rfl rfl rfl
  try dsimp only [putL, setL, evL, getL]
  refine HL_skip ?_ ?_
  ·exact wantF (j := 6) (b := true) (t := 11) (c := false) rfl rfl rfl rfl rfl
  try dsimp only [putL, setL, evL, getL]
  refine HL_cons rfl ?_
  refine o_pickF rfl rfl ?_
  try dsimp only [putL, setL, evL, getL]
  refine HL_cons rfl ?_
  refine o_assign ?_
  try dsimp only [putL, setL, evL, getL]
  refine HL_nil ?_
  refine hK2 _ _ ?_
  refine HT_ret ?_
  exact hQr _ _ [.bool false] ⟨rfl, trivial⟩ (retH (fun r => impl_canParse.post sb s F0 r _ _) (show some _ = some r from H) ⟨rfl, hH⟩)
def impl_spansOf.l1 (p0 : List (Int)) : Nat → (List ((Int) × (Int))) → Int → Option (List ((Int) × (Int)))
 | 0, _, _ => none
 | kf + 1, x45, x46 => if (decide ((IntKind.i64.wrap (x46 + 1)) < (p0.length : Int))) = true then ((rd? p0 x46).bind fun u62 => (rd? p0 (IntKind.i64.wrap (x46 + 1))).bind fun u63 => (app? 8796093022208 x45 [(u62, u63)]).bind fun x65 => impl_spansOf.l1 p0 kf x65 (IntKind.i64.wrap (x46 + 2))) else (some x45)
def impl_spansOf.f (p0 : List (Int)) : Option (List ((Int) × (Int))) := (impl_spansOf.l1 p0 ((((p0.length : Int)) - (IntKind.i64.wrap (0 + 1))).toNat + 2) ([] : List ((Int) × (Int))) 0).bind fun (o : (List ((Int) × (Int)))) => match o with | x36 => (some x36)
def impl_spansOf.post (sb s : St) (F0 : Fp) (r : (List ((Int) × (Int)))) : Value → St → Prop := fun v s' => ∃ (A0 : Option Addr) (c0 : Nat), v = .slice A0 r.length c0 ∧ Hp sb s F0 s' [Ck.ol OS219 219 A0 c0 r]
set_option maxRecDepth 100000 in
set_option maxHeartbeats 4000000 in
theorem impl_spansOf.ok (sb s : St) (F0 : Fp) (A0p : Option Addr) (c0p : Nat) (p0 : List (Int)) (HRp0 : Rd KI sb A0p c0p p0) (hH : Hp sb s F0 s []) (r : (List ((Int) × (Int)))) (H : impl_spansOf.f p0 = some r) : GCall Try.prog 225 #[.slice A0p p0.length c0p] s (impl_spansOf.post sb s F0 r) := by
 refine GCall_ofk [.tmp 2] [.slice A0p p0.length c0p, undef, undef, undef, undef, undef, undef, undef, undef, undef, undef, undef, undef, undef, undef, undef, undef, undef, undef, undef, undef, undef, undef, undef, undef, undef, undef] Try.func225 rfl rfl rfl ?_
 intro w Q hQr hQn hQp
 replace H := topE H
 unfold impl_spansOf.f at H
 refine HT_seq_k ?_
 intro K1 hK1
 refine HT_region ?_
 refine HL_cons rfl ?_
 refine o_assign ?_
 try dsimp only [putL, setL, evL, getL]
 refine HL_nil ?_
 refine hK1 _ _ ?_
 refine HT_seq_k ?_
 intro K2 hK2
 refine HT_region ?_
 refine HL_cons rfl ?_
 refine o_lit0H (α := (Int) × (Int)) (K := KS219) (O := OS219) hH Try.underlying217 tI219 ?_
 intro A3 s3 hH' hG
 replace hH : Hp sb s F0 s3 [Ck.ol OS219 219 A3 0 ([] : List ((Int) × (Int)))] := hH'
 clear hH' hG
 try dsimp only [putL, setL, evL, getL]
 refine HL_cons rfl ?_
 refine o_assign ?_
 try dsimp only [putL, setL, evL, getL]
 refine HL_nil ?_
 refine hK2 _ _ ?_
 refine HT_seq_k ?_
 intro K4 hK4
 refine HT_seq_k ?_
 intro K5 hK5
 refine HT_region ?_
 refine HL_cons rfl ?_
 refine o_assign ?_
 try dsimp only [putL, setL, evL, getL]
 refine HL_nil ?_
 refine hK5 _ _ ?_
 refine joinH H fun G6 hG6 H => ?_
 refine HT_toK (fun l' s' => ∃ (x36 : List ((Int) × (Int))) (A36 : Option Addr) (c36 : Nat), G6 x36 = some r ∧ l' = [.slice A0p p0.length c0p, undef, .slice none 0 0, .slice A36 x36.length c36, getL l' 4, .slice A3 ([] : List ((Int) × (Int))).length 0, getL l' 6, getL l' 7, getL l' 8, getL l' 9, getL l' 10, getL l' 11, getL l' 12, getL l' 13, getL l' 14, getL l' 15, getL l' 16, getL l' 17, getL l' 18, getL l' 19, getL l' 20, getL l' 21, getL l' 22, getL l' 23, getL l' 24, getL l' 25, undef] ∧ Hp sb s F0 s' [Ck.ol OS219 219 A36 c36 x36]) ?_ ?_
 ·intro K6 hK6
  refine HT_block ?_
  refine HT_loopK (fun kf l' s' => ∃ (x45 : List ((Int) × (Int))) (A45 : Option Addr) (c45 : Nat) (x46 : Int), (impl_spansOf.l1 p0 kf x45 x46).bind G6 = some r ∧ l' = [.slice A0p p0.length c0p, undef, .slice none 0 0, .slice A45 x45.length c45, .int .i64 x46, .slice A3 ([] : List ((Int) × (Int))).length 0, getL l' 6, getL l' 7, getL l' 8, getL l' 9, getL l' 10, getL l' 11, getL l' 12, getL l' 13, getL l' 14, getL l' 15, getL l' 16, getL l' 17, getL l' 18, getL l' 19, getL l' 20, getL l' 21, getL l' 22, getL l' 23, getL l' 24, getL l' 25, undef] ∧ Hp sb s F0 s' [Ck.ol OS219 219 A45 c45 x45]) ((((p0.length : Int)) - (IntKind.i64.wrap (0 + 1))).toNat + 2) ⟨([] : List ((Int) × (Int))), A3, 0, 0, H, rfl, hH⟩ ?_
  rintro kf l' s57 ⟨x45, A45, c45, x46, H, hl, hH⟩ K57 hK57
  generalize getL l' 6 = j6, getL l' 7 = j7, getL l' 8 = j8, getL l' 9 = j9, getL l' 10 = j10, getL l' 11 = j11, getL l' 12 = j12, getL l' 13 = j13, getL l' 14 = j14, getL l' 15 = j15, getL l' 16 = j16, getL l' 17 = j17, getL l' 18 = j18, getL l' 19 = j19, getL l' 20 = j20, getL l' 21 = j21, getL l' 22 = j22, getL l' 23 = j23, getL l' 24 = j24, getL l' 25 = j25 at hl
  subst hl
  cases kf with
  | zero => simp [impl_spansOf.l1] at H
  | succ kf =>
   rw [impl_spansOf.l1] at H
   refine HT_seq_k ?_
   intro K58 hK58
   refine HT_seq_k ?_
   intro K59 hK59
   refine HT_region ?_
   refine HL_cons rfl ?_
   refine o_move ?_
   try dsimp only [putL, setL, evL, getL]
   refine HL_cons rfl ?_
   refine o_bin rfl rfl rfl ?_
   try dsimp only [putL, setL, evL, getL]
   refine HL_cons rfl ?_
   refine o_move ?_
   try dsimp only [putL, setL, evL, getL]
   refine HL_cons rfl ?_
   refine o_len rfl Try.underlying24 ?_
   try dsimp only [putL, setL, evL, getL]
   refine HL_cons rfl ?_
   refine o_bin rfl rfl rfl ?_
   try dsimp only [putL, setL, evL, getL]
   refine HL_nil ?_
   refine hK59 _ _ ?_
   rcases Bool.eq_false_or_eq_true (decide ((IntKind.i64.wrap (x46 + 1)) < (p0.length : Int))) with hb60 | hb60
   ·replace H := iteT hb60 H
    refine HT_true (congrArg Value.bool hb60) ?_
    refine HT_skip ?_
    refine hK58 _ _ ?_
    refine HT_seq_k ?_
    intro K61 hK61
    refine HT_block ?_
    refine HX_draw hMix ?_
    refine HX_lim (R := fun _ => True) (k := 0) (fun s' => Gro s57 s') 12 ?_
    have hR := Gro.refl s57
    have hH0 := hH
    refine HK_readP 0 (v := .slice A45 x45.length c45) rfl (by kernel_rfl) (fun c l s h => hQp c l s h) rfl (fun s' K hK => ?_) rfl rfl (fun _ => hR) ?_
    ·refine o_move ?_
     exact hK
    try dsimp only [putL, setL, evL, getL]
    refine HK_readP 1 (v := .slice A0p p0.length c0p) rfl (by kernel_rfl) (fun c l s h => hQp c l s h) rfl (fun s' K hK => ?_) rfl rfl (fun _ => hR) ?_
    ·refine o_move ?_
     exact hK
    try dsimp only [putL, setL, evL, getL]
    refine HK_readP 2 (v := .int .i64 x46) rfl (by kernel_rfl) (fun c l s h => hQp c l s h) rfl (fun s' K hK => ?_) rfl rfl (fun _ => hR) ?_
    ·refine o_move ?_
     exact hK
    try dsimp only [putL, setL, evL, getL]
    replace H := headE H
    obtain ⟨u62, hu62, H⟩ := H
    obtain ⟨b62, o62, cs62, hr62, hh62, hel62⟩ := Rd.elb HRp0 hu62
    obtain rfl := hr62
    refine HK_readP 3 (v := .pointer (some ⟨b62, o62, none⟩)) rfl (by kernel_rfl) (fun c l s h => hQp c l s h) rfl (fun s' K hK => ?_) rfl rfl (fun _ => hR) ?_
    ·refine hel62 s' rfl rfl Try.underlying24 tI3 ?_
     exact hK
    try dsimp only [putL, setL, evL, getL]
    refine HK_read 4 (v := .int .i64 u62) rfl (by kernel_rfl) (fun c l s h => hQp c l s h) rfl (fun s' hR' K hK => ?_) rfl rfl hR ?_
    ·refine o_load' rfl Try.underlying3 rfl ((hh62 (hH0.bs.mono.trans hR'.mono)) 0 _ rfl) ?_
     exact hK
    try dsimp only [putL, setL, evL, getL]
    refine HK_readP 5 (v := .slice A0p p0.length c0p) rfl (by kernel_rfl) (fun c l s h => hQp c l s h) rfl (fun s' K hK => ?_) rfl rfl (fun _ => hR) ?_
    ·refine o_move ?_
     exact hK
    try dsimp only [putL, setL, evL, getL]
    refine HK_readP 6 (v := .int .i64 x46) rfl (by kernel_rfl) (fun c l s h => hQp c l s h) rfl (fun s' K hK => ?_) rfl rfl (fun _ => hR) ?_
    ·refine o_move ?_
     exact hK
    try dsimp only [putL, setL, evL, getL]
    refine HK_readP 7 (v := .int .i64 (IntKind.i64.wrap (x46 + 1))) rfl (by kernel_rfl) (fun c l s h => hQp c l s h) rfl (fun s' K hK => ?_) rfl rfl (fun _ => hR) ?_
    ·refine o_bin rfl rfl rfl ?_
     exact hK
    try dsimp only [putL, setL, evL, getL]
    replace H := headE H
    obtain ⟨u63, hu63, H⟩ := H
    obtain ⟨b63, o63, cs63, hr63, hh63, hel63⟩ := Rd.elb HRp0 hu63
    obtain rfl := hr63
    refine HK_readP 8 (v := .pointer (some ⟨b63, o63, none⟩)) rfl (by kernel_rfl) (fun c l s h => hQp c l s h) rfl (fun s' K hK => ?_) rfl rfl (fun _ => hR) ?_
    ·refine hel63 s' rfl rfl Try.underlying24 tI3 ?_
     exact hK
    try dsimp only [putL, setL, evL, getL]
    refine HK_read 9 (v := .int .i64 u63) rfl (by kernel_rfl) (fun c l s h => hQp c l s h) rfl (fun s' hR' K hK => ?_) rfl rfl hR ?_
    ·refine o_load' rfl Try.underlying3 rfl ((hh63 (hH0.bs.mono.trans hR'.mono)) 0 _ rfl) ?_
     exact hK
    try dsimp only [putL, setL, evL, getL]
    refine HK_readP 10 (v := .agg #[.int .i64 u62, .int .i64 u63]) rfl (by kernel_rfl) (fun c l s h => hQp c l s h) rfl (fun s' K hK => ?_) rfl rfl (fun _ => hR) ?_
    ·refine o_build (pl := [(0, 1), (1, 1)]) (cs := #[.int .i64 u62, .int .i64 u63]) Try.underlying219 tI219 (by kernel_rfl) (by kernel_rfl) rfl ?_
     exact hK
    try dsimp only [putL, setL, evL, getL]
    refine HK_more [11] (by kernel_rfl) rfl (fun _ => hR) ⟨⟨_, rfl, Or.inl ⟨rfl, ?_⟩⟩, trivial⟩
    skip
    refine o_litF (K := KS219) (O := OS219) (ca := #[.int .i64 u62, .int .i64 u63]) [[.int .i64 u62, .int .i64 u63]] [(u62, u63)] hH Try.underlying217 tI219 rfl (by decide) rfl rfl (by kernel_rfl) rfl ⟨rfl, Ent.own (Ent.pair (v1 := [.int .i64 u62]) (v2 := [.int .i64 u63]) (x1 := u62) (x2 := u63) (Ent.flat rfl) (Ent.flat rfl)), trivial⟩ ?_
    intro A64 s64 hH' hG
    replace hR := hR.trans hG
    replace hH : Hp sb s F0 s64 [Ck.ol OS219 219 A45 c45 x45, Ck.ol OS219 219 A64 1 [(u62, u63)]] := hH'
    clear hH' hG
    try dsimp only [putL, setL, evL, getL]
    refine HK_more [12] (by kernel_rfl) rfl (fun _ => hR) ⟨⟨_, rfl, Or.inl ⟨rfl, ?_⟩⟩, trivial⟩
    replace H := headE H
    obtain ⟨x65, hx65, H⟩ := H
    skip
    refine o_appF (K := KS219) (n := 8796093022208) (A := A45) (c := c45) (xs := x45) (ys := [(u62, u63)]) (B := A64) (c2 := 1) hH 0 rfl rfl rfl rfl Try.underlying217 tI219 rfl (by decide) (by decide) (by decide) (Src.flat (hH.rd 1 rfl)) hx65 ?_
    intro A65 c65 s65 hH'
    replace hH : Hp sb s F0 s65 [Ck.ol OS219 219 A65 c65 x65, Ck.ol OS219 219 A64 1 [(u62, u63)]] := hH'
    clear hH'
    try dsimp only [putL, setL, evL, getL]
    refine HK_free (by kernel_rfl) ?_
    refine HX_lim (R := fun _ => True) (k := 0) (fun s' => Gro s65 s') 15 ?_
    have hR := Gro.refl s65
    have hH0 := hH
    refine HK_more [13] (by kernel_rfl) rfl (fun _ => hR) ⟨⟨_, rfl, Or.inl ⟨rfl, ?_⟩⟩, trivial⟩
    skip
    refine o_assign ?_
    try dsimp only [putL, setL, evL, getL]
    refine HK_done (fun _ => hR) (by kernel_rfl) ?_
    refine hK61 _ _ ?_
    refine HT_region ?_
    refine HL_cons rfl ?_
    refine o_move ?_
    try dsimp only [putL, setL, evL, getL]
    refine HL_cons rfl ?_
    refine o_bin rfl rfl rfl ?_
    try dsimp only [putL, setL, evL, getL]
    refine HL_cons rfl ?_
    refine o_assign ?_
    try dsimp only [putL, setL, evL, getL]
    refine HL_nil ?_
    exact hK57 _ _ ⟨kf, Nat.lt_succ_self kf, x65, A65, c65, IntKind.i64.wrap (x46 + 2), H, rfl, hH.sel [0] (by decide)⟩
   ·replace H := iteF hb60 H
    refine HT_false (congrArg Value.bool hb60) ?_
    refine HT_exit ?_
    exact hK6 _ _ ⟨x45, A45, c45, H, rfl, hH⟩
 ·rintro l' s66 ⟨x36, A36, c36, H, hl, hH⟩
  generalize getL l' 4 = j4, getL l' 6 = j6, getL l' 7 = j7, getL l' 8 = j8, getL l' 9 = j9, getL l' 10 = j10, getL l' 11 = j11, getL l' 12 = j12, getL l' 13 = j13, getL l' 14 = j14, getL l' 15 = j15, getL l' 16 = j16, getL l' 17 = j17, getL l' 18 = j18, getL l' 19 = j19, getL l' 20 = j20, getL l' 21 = j21, getL l' 22 = j22, getL l' 23 = j23, getL l' 24 = j24, getL l' 25 = j25 at hl
  subst hl
  replace H := hG6 _ H
  try dsimp only at H
  refine hK4 _ _ ?_
  refine HT_seq_k ?_
  intro K67 hK67
  refine HT_region ?_
  refine HL_cons rfl ?_
  refine o_move ?_
  try dsimp only [putL, setL, evL, getL]
  refine HL_cons rfl ?_
  refine o_assign ?_
  try dsimp only [putL, setL, evL, getL]
  refine HL_nil ?_
  refine hK67 _ _ ?_
  refine HT_ret ?_
  exact hQr _ _ [.slice A36 x36.length c36] ⟨rfl, trivial⟩ (retH (fun r => impl_spansOf.post sb s F0 r _ _) (show some _ = some r from H) ⟨A36, c36, rfl, hH⟩)
def impl_inSet_1.f (p0_0 : Int) (p0_1 : Int) (pf0_0 : Int) : Option Bool := (impl_inRange.f pf0_0 p0_0 p0_1).bind fun u4 => some u4
def impl_inSet_1.post (sb s : St) (F0 : Fp) (bpf0 : Nat) (pf0_0 : Int) (r : Bool) : Value → St → Prop := fun v s' => v = .bool r ∧ Hp sb s F0 s' [Ck.ov bpf0 [.int .i64 pf0_0] 3]
set_option maxRecDepth 100000 in
set_option maxHeartbeats 4000000 in
theorem impl_inSet_1.ok (sb s : St) (F0 : Fp) (p0_0 : Int) (p0_1 : Int) (bpf0 : Nat) (pf0_0 : Int) (hH : Hp sb s F0 s [Ck.ov bpf0 [.int .i64 pf0_0] 3]) (r : Bool) (H : impl_inSet_1.f p0_0 p0_1 pf0_0 = some r) : GCall Try.prog 226 #[.agg #[.int .i64 p0_0, .int .i64 p0_1], .pointer (some ⟨bpf0, 0, none⟩)] s (impl_inSet_1.post sb s F0 bpf0 pf0_0 r) := by
 refine GCall_ofk [.tmp 3] [.agg #[.int .i64 p0_0, .int .i64 p0_1], .pointer (some ⟨bpf0, 0, none⟩), undef, undef, undef, undef, undef, undef, undef, undef] Try.func226 rfl rfl rfl ?_
 intro w Q hQr hQn hQp
 replace H := topE H
 unfold impl_inSet_1.f at H
 refine HT_seq_k ?_
 intro K1 hK1
 refine HT_region ?_
 refine HL_cons rfl ?_
 refine o_boxH hH rfl ?_
 intro b2 s2 hH' hG
 replace hH : Hp sb s F0 s2 [Ck.ov bpf0 [.int .i64 pf0_0] 3, Ck.ov b2 [.int .i64 p0_0, .int .i64 p0_1] 219] := hH'
 clear hH' hG
 try dsimp only [putL, setL, evL, getL]
 refine HL_cons rfl ?_
 refine o_assign ?_
 try dsimp only [putL, setL, evL, getL]
 refine HL_nil ?_
 refine hK1 _ _ ?_
 refine HT_seq_k ?_
 intro K3 hK3
 refine HT_region ?_
 refine HL_cons rfl ?_
 refine o_load' rfl Try.underlying3 rfl (hH.hasv 0 rfl rfl) ?_
 try dsimp only [putL, setL, evL, getL]
 refine HL_cons rfl ?_
 refine o_faddr' (ft := 3) (off := 0) rfl Try.underlying219 rfl tI3 (by decide) ?_
 try dsimp only [putL, setL, evL, getL]
 refine HL_cons rfl ?_
 refine o_load' rfl Try.underlying3 rfl (hH.hasv 1 rfl rfl) ?_
 try dsimp only [putL, setL, evL, getL]
 refine HL_cons rfl ?_
 refine o_faddr' (ft := 3) (off := 1) rfl Try.underlying219 rfl tI3 (by decide) ?_
 try dsimp only [putL, setL, evL, getL]
 refine HL_cons rfl ?_
 refine o_load' rfl Try.underlying3 rfl (hH.hasv 1 rfl rfl) ?_
 try dsimp only [putL, setL, evL, getL]
 replace H := headE H
 obtain ⟨u4, hu4, H⟩ := H
 refine HL_cons rfl ?_
 refine o_call (args := #[.int .i64 pf0_0, .int .i64 p0_0, .int .i64 p0_1]) Try.func105 rfl rfl rfl (impl_inRange.ok sb s2 no pf0_0 p0_0 p0_1 (Hp.own hH.bs) _ hu4) ?_
 rintro _ s4 ⟨rfl, hD⟩
 replace hH := hH.back0 hD (Up.refl _ _ _)
 clear hD
 dsimp only [addC, setC, rmC, selC, getC] at hH
 try dsimp only [putL, setL, evL, getL]
 refine HL_cons rfl ?_
 refine o_assign ?_
 try dsimp only [putL, setL, evL, getL]
 refine HL_nil ?_
 refine hK3 _ _ ?_
 refine HT_ret ?_
 exact hQr _ _ [.bool u4] ⟨rfl, trivial⟩ (retH (fun r => impl_inSet_1.post sb s F0 bpf0 pf0_0 r _ _) (show some _ = some r from H) ⟨rfl, hH.sel [0] (by decide)⟩)
def slices_IndexFunc_impl_span_impl_span_impl_inSet_1.l1 (p0 : List ((Int) × (Int))) (p1c0_0 : Int) : Nat → Int → Option (Lo Unit Int)
 | 0, _ => none
 | kf + 1, x48 => if (decide (x48 < (p0.length : Int))) = true then ((rd? p0 x48).bind fun u67 => (impl_inSet_1.f u67.1 u67.2 p1c0_0).bind fun u68 => if u68 = true then ((some x48).bind fun z => some (Lo.ret z)) else (slices_IndexFunc_impl_span_impl_span_impl_inSet_1.l1 p0 p1c0_0 kf (IntKind.i64.wrap (x48 + 1)))) else (some (Lo.go ()))
def slices_IndexFunc_impl_span_impl_span_impl_inSet_1.f (p0 : List ((Int) × (Int))) (p1c0_0 : Int) : Option Int := (slices_IndexFunc_impl_span_impl_span_impl_inSet_1.l1 p0 p1c0_0 ((((p0.length : Int)) - (0)).toNat + 2) 0).bind fun (o : Lo Unit Int) => match o with | .go () => (some (-1)) | .ret z => some z
def slices_IndexFunc_impl_span_impl_span_impl_inSet_1.post (sb s : St) (F0 : Fp) (bp1c0 : Nat) (p1c0_0 : Int) (r : Int) : Value → St → Prop := fun v s' => v = .int .i64 r ∧ Hp sb s F0 s' [Ck.ov bp1c0 [.int .i64 p1c0_0] 3]
set_option maxRecDepth 100000 in
set_option maxHeartbeats 4000000 in
theorem slices_IndexFunc_impl_span_impl_span_impl_inSet_1.ok (sb s : St) (F0 : Fp) (A0p : Option Addr) (c0p : Nat) (p0 : List ((Int) × (Int))) (bp1c0 : Nat) (p1c0_0 : Int) (HRp0 : Rd KS219 sb A0p c0p p0) (hH : Hp sb s F0 s [Ck.ov bp1c0 [.int .i64 p1c0_0] 3]) (r : Int) (H : slices_IndexFunc_impl_span_impl_span_impl_inSet_1.f p0 p1c0_0 = some r) : GCall Try.prog 237 #[.slice A0p p0.length c0p, .func (.func 226) #[] #[.pointer (some ⟨bp1c0, 0, none⟩)]] s (slices_IndexFunc_impl_span_impl_span_impl_inSet_1.post sb s F0 bp1c0 p1c0_0 r) := by
 refine GCall_ofk [.tmp 4] [.slice A0p p0.length c0p, .func (.func 226) #[] #[.pointer (some ⟨bp1c0, 0, none⟩)], undef, undef, undef, undef, undef, undef, undef, undef, undef, undef, undef, undef, undef, undef, undef, undef, undef] Try.func237 rfl rfl rfl ?_
 intro w Q hQr hQn hQp
 replace H := topE H
 unfold slices_IndexFunc_impl_span_impl_span_impl_inSet_1.f at H
 refine HT_seq_k ?_
 intro K1 hK1
 refine HT_region ?_
 refine HL_cons rfl ?_
 refine o_assign ?_
 try dsimp only [putL, setL, evL, getL]
 refine HL_nil ?_
 refine hK1 _ _ ?_
 refine HT_seq_k ?_
 intro K2 hK2
 refine HT_seq_k ?_
 intro K3 hK3
 refine HT_region ?_
 refine HL_cons rfl ?_
 refine o_move ?_
 try dsimp only [putL, setL, evL, getL]
 refine HL_cons rfl ?_
 refine o_len rfl Try.underlying217 ?_
 try dsimp only [putL, setL, evL, getL]
 refine HL_cons rfl ?_
 refine o_move ?_
 try dsimp only [putL, setL, evL, getL]
 refine HL_nil ?_
 refine hK3 _ _ ?_
 refine joinH H fun G4 hG4 H => ?_
 refine HT_toK (fun l' s' => G4 (.go ()) = some r ∧ l' = [.slice A0p p0.length c0p, .func (.func 226) #[] #[.pointer (some ⟨bp1c0, 0, none⟩)], undef, undef, getL l' 4, getL l' 5, .slice A0p p0.length c0p, .int .i64 (p0.length : Int), getL l' 8, getL l' 9, getL l' 10, getL l' 11, getL l' 12, getL l' 13, getL l' 14, getL l' 15, getL l' 16, getL l' 17, getL l' 18] ∧ Hp sb s F0 s' [Ck.ov bp1c0 [.int .i64 p1c0_0] 3]) ?_ ?_
 ·intro K4 hK4
  refine HT_block ?_
  refine HT_loopK (fun kf l' s' => ∃ (x48 : Int), (slices_IndexFunc_impl_span_impl_span_impl_inSet_1.l1 p0 p1c0_0 kf x48).bind G4 = some r ∧ l' = [.slice A0p p0.length c0p, .func (.func 226) #[] #[.pointer (some ⟨bp1c0, 0, none⟩)], undef, undef, getL l' 4, getL l' 5, .slice A0p p0.length c0p, .int .i64 (p0.length : Int), .int .i64 x48, getL l' 9, getL l' 10, getL l' 11, getL l' 12, getL l' 13, getL l' 14, getL l' 15, getL l' 16, getL l' 17, getL l' 18] ∧ Hp sb s F0 s' [Ck.ov bp1c0 [.int .i64 p1c0_0] 3]) ((((p0.length : Int)) - (0)).toNat + 2) ⟨0, H, rfl, hH⟩ ?_
  rintro kf l' s60 ⟨x48, H, hl, hH⟩ K60 hK60
  generalize getL l' 4 = j4, getL l' 5 = j5, getL l' 9 = j9, getL l' 10 = j10, getL l' 11 = j11, getL l' 12 = j12, getL l' 13 = j13, getL l' 14 = j14, getL l' 15 = j15, getL l' 16 = j16, getL l' 17 = j17, getL l' 18 = j18 at hl
  subst hl
  cases kf with
  | zero => simp [slices_IndexFunc_impl_span_impl_span_impl_inSet_1.l1] at H
  | succ kf =>
   rw [slices_IndexFunc_impl_span_impl_span_impl_inSet_1.l1] at H
   refine HT_seq_k ?_
   intro K61 hK61
   refine HT_region ?_
   refine HL_cons rfl ?_
   refine o_bin rfl rfl rfl ?_
   try dsimp only [putL, setL, evL, getL]
   refine HL_nil ?_
   refine hK61 _ _ ?_
   refine HT_seq_k ?_
   intro K62 hK62
   rcases Bool.eq_false_or_eq_true (decide (x48 < (p0.length : Int))) with hb63 | hb63
   ·replace H := iteT hb63 H
    refine HT_true (congrArg Value.bool hb63) ?_
    refine HT_skip ?_
    refine hK62 _ _ ?_
    refine HT_seq_k ?_
    intro K64 hK64
    refine HT_block ?_
    refine HT_seq_k ?_
    intro K65 hK65
    refine HT_region ?_
    refine HL_cons rfl ?_
    refine o_move ?_
    try dsimp only [putL, setL, evL, getL]
    refine HL_cons rfl ?_
    refine o_assign ?_
    try dsimp only [putL, setL, evL, getL]
    refine HL_nil ?_
    refine hK65 _ _ ?_
    refine HT_seq_k ?_
    intro K66 hK66
    refine HT_region ?_
    refine HL_cons rfl ?_
    refine o_move ?_
    try dsimp only [putL, setL, evL, getL]
    refine HL_cons rfl ?_
    refine o_move ?_
    try dsimp only [putL, setL, evL, getL]
    refine HL_cons rfl ?_
    refine o_move ?_
    try dsimp only [putL, setL, evL, getL]
    replace H := headE H
    obtain ⟨u67, hu67, H⟩ := H
    obtain ⟨b67, o67, cs67, hr67, hh67, hel67⟩ := Rd.elb HRp0 hu67
    obtain ⟨_, _, rfl, rfl, rfl⟩ := hr67
    refine HL_cons rfl ?_
    refine hel67 s60 rfl rfl Try.underlying217 tI219 ?_
    try dsimp only [putL, setL, evL, getL]
    refine HL_cons rfl ?_
    refine o_loads' [.int .i64 u67.1, .int .i64 u67.2] rfl Try.underlying219 rfl tI219 rfl (fun j v hj => (hh67 hH.bs.mono) j v hj) ?_
    try dsimp only [putL, setL, evL, getL]
    replace H := headE H
    obtain ⟨u68, hu68, H⟩ := H
    obtain ⟨F1, hA, hB⟩ := hH.take [0] (by decide)
    dsimp only [addC, setC, rmC, selC, getC] at hA
    refine HL_cons rfl ?_
    refine o_callv (first := #[]) (cap := #[.pointer (some ⟨bp1c0, 0, none⟩)]) (args := #[.agg #[.int .i64 u67.1, .int .i64 u67.2], .pointer (some ⟨bp1c0, 0, none⟩)]) rfl Try.func226 rfl rfl [.agg #[.int .i64 u67.1, .int .i64 u67.2]] rfl (by simp) (impl_inSet_1.ok sb s60 F1 u67.1 u67.2 bp1c0 p1c0_0 hA _ hu68) ?_
    rintro _ s68 ⟨rfl, hD⟩
    replace hH := hB _ _ _ (Up.refl _ _ _) hD
    clear hD hA hB
    dsimp only [addC, setC, rmC, selC, getC] at hH
    try dsimp only [putL, setL, evL, getL]
    refine HL_nil ?_
    refine hK66 _ _ ?_
    rcases Bool.eq_false_or_eq_true u68 with hb69 | hb69
    ·replace H := iteT hb69 H
     refine HT_true (congrArg Value.bool hb69) ?_
     refine HT_seq_k ?_
     intro K70 hK70
     refine HT_region ?_
     refine HL_cons rfl ?_
     refine o_move ?_
     try dsimp only [putL, setL, evL, getL]
     refine HL_cons rfl ?_
     refine o_assign ?_
     try dsimp only [putL, setL, evL, getL]
     refine HL_nil ?_
     refine hK70 _ _ ?_
     refine HT_ret ?_
     replace H := escH (fun z hz => hG4 _ hz) H
     exact hQr _ _ [.int .i64 x48] ⟨rfl, trivial⟩ (retH (fun r => slices_IndexFunc_impl_span_impl_span_impl_inSet_1.post sb s F0 bp1c0 p1c0_0 r _ _) (show some _ = some r from H) ⟨rfl, hH.sel [1] (by decide)⟩)
    ·replace H := iteF hb69 H
     refine HT_false (congrArg Value.bool hb69) ?_
     refine HT_skip ?_
     refine hK64 _ _ ?_
     refine HT_region ?_
     refine HL_cons rfl ?_
     refine o_bin rfl rfl rfl ?_
     try dsimp only [putL, setL, evL, getL]
     refine HL_cons rfl ?_
     refine o_move ?_
     try dsimp only [putL, setL, evL, getL]
     refine HL_nil ?_
     exact hK60 _ _ ⟨kf, Nat.lt_succ_self kf, IntKind.i64.wrap (x48 + 1), H, rfl, hH.sel [1] (by decide)⟩
   ·replace H := iteF hb63 H
    refine HT_false (congrArg Value.bool hb63) ?_
    refine HT_exit ?_
    exact hK4 _ _ ⟨H, rfl, hH⟩
 ·rintro l' s71 ⟨H, hl, hH⟩
  generalize getL l' 4 = j4, getL l' 5 = j5, getL l' 8 = j8, getL l' 9 = j9, getL l' 10 = j10, getL l' 11 = j11, getL l' 12 = j12, getL l' 13 = j13, getL l' 14 = j14, getL l' 15 = j15, getL l' 16 = j16, getL l' 17 = j17, getL l' 18 = j18 at hl
  subst hl
  replace H := hG4 _ H
  try dsimp only at H
  refine hK2 _ _ ?_
  refine HT_seq_k ?_
  intro K72 hK72
  refine HT_region ?_
  refine HL_cons rfl ?_
  refine o_assign ?_
  try dsimp only [putL, setL, evL, getL]
  refine HL_nil ?_
  refine hK72 _ _ ?_
  refine HT_ret ?_
  exact hQr _ _ [.int .i64 (-1)] ⟨rfl, trivial⟩ (retH (fun r => slices_IndexFunc_impl_span_impl_span_impl_inSet_1.post sb s F0 bp1c0 p1c0_0 r _ _) (show some _ = some r from H) ⟨rfl, hH⟩)
def slices_ContainsFunc_impl_span_impl_span_impl_inSet_1.f (p0 : List ((Int) × (Int))) (p1c0_0 : Int) : Option Bool := (slices_IndexFunc_impl_span_impl_span_impl_inSet_1.f p0 p1c0_0).bind fun u3 => some (decide (u3 ≥ 0))
def slices_ContainsFunc_impl_span_impl_span_impl_inSet_1.post (sb s : St) (F0 : Fp) (bp1c0 : Nat) (p1c0_0 : Int) (r : Bool) : Value → St → Prop := fun v s' => v = .bool r ∧ Hp sb s F0 s' [Ck.ov bp1c0 [.int .i64 p1c0_0] 3]
set_option maxRecDepth 100000 in
set_option maxHeartbeats 4000000 in
theorem slices_ContainsFunc_impl_span_impl_span_impl_inSet_1.ok (sb s : St) (F0 : Fp) (A0p : Option Addr) (c0p : Nat) (p0 : List ((Int) × (Int))) (bp1c0 : Nat) (p1c0_0 : Int) (HRp0 : Rd KS219 sb A0p c0p p0) (hH : Hp sb s F0 s [Ck.ov bp1c0 [.int .i64 p1c0_0] 3]) (r : Bool) (H : slices_ContainsFunc_impl_span_impl_span_impl_inSet_1.f p0 p1c0_0 = some r) : GCall Try.prog 224 #[.slice A0p p0.length c0p, .func (.func 226) #[] #[.pointer (some ⟨bp1c0, 0, none⟩)]] s (slices_ContainsFunc_impl_span_impl_span_impl_inSet_1.post sb s F0 bp1c0 p1c0_0 r) := by
 refine GCall_ofk [.tmp 4] [.slice A0p p0.length c0p, .func (.func 226) #[] #[.pointer (some ⟨bp1c0, 0, none⟩)], undef, undef, undef, undef, undef, undef, undef] Try.func224 rfl rfl rfl ?_
 intro w Q hQr hQn hQp
 replace H := topE H
 unfold slices_ContainsFunc_impl_span_impl_span_impl_inSet_1.f at H
 refine HT_seq_k ?_
 intro K1 hK1
 refine HT_region ?_
 refine HL_cons rfl ?_
 refine o_assign ?_
 try dsimp only [putL, setL, evL, getL]
 refine HL_nil ?_
 refine hK1 _ _ ?_
 refine HT_seq_k ?_
 intro K2 hK2
 refine HT_region ?_
 refine HL_cons rfl ?_
 refine o_move ?_
 try dsimp only [putL, setL, evL, getL]
 refine HL_cons rfl ?_
 refine o_move ?_
 try dsimp only [putL, setL, evL, getL]
 replace H := headE H
 obtain ⟨u3, hu3, H⟩ := H
 obtain ⟨F1, hA, hB⟩ := hH.take [0] (by decide)
 dsimp only [addC, setC, rmC, selC, getC] at hA
 refine HL_cons rfl ?_
 refine o_call (args := #[.slice A0p p0.length c0p, .func (.func 226) #[] #[.pointer (some ⟨bp1c0, 0, none⟩)]]) Try.func237 rfl rfl rfl (slices_IndexFunc_impl_span_impl_span_impl_inSet_1.ok sb s F1 A0p c0p p0 bp1c0 p1c0_0 HRp0 hA _ hu3) ?_
 rintro _ s3 ⟨rfl, hD⟩
 replace hH := hB _ _ _ (Up.refl _ _ _) hD
 clear hD hA hB
 dsimp only [addC, setC, rmC, selC, getC] at hH
 try dsimp only [putL, setL, evL, getL]
 refine HL_cons rfl ?_
 refine o_bin rfl rfl rfl ?_
 try dsimp only [putL, setL, evL, getL]
 refine HL_cons rfl ?_
 refine o_assign ?_
 try dsimp only [putL, setL, evL, getL]
 refine HL_nil ?_
 refine hK2 _ _ ?_
 refine HT_ret ?_
 exact hQr _ _ [.bool (decide (u3 ≥ 0))] ⟨rfl, trivial⟩ (retH (fun r => slices_ContainsFunc_impl_span_impl_span_impl_inSet_1.post sb s F0 bp1c0 p1c0_0 r _ _) (show some _ = some r from H) ⟨rfl, hH.sel [1] (by decide)⟩)
end Go.Proofs.Ytkieinlcpkpcjaa
