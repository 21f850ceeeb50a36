/- The functions that the law reaches, as plain functions, each with its contract: printed by a program of the prover's. No conditions: lemmas. -/
import Derived.Test.YtkieinlcpkpcjaaWSpansOf0
set_option linter.unusedVariables false
set_option linter.unusedSimpArgs false
namespace Go.Proofs.Ytkieinlcpkpcjaa
open Go Go.Proofs.GL
def spec_SpansOf.l1 (p1 : List ((Int) × (Int) × (Int))) (p2 : Int) : Nat → (List ((Int) × (Int) × (Int))) → Int → Option (List ((Int) × (Int) × (Int)))
  | 0, _, _ => none
  | kf + 1, x136, x137 => if (decide (x137 < (p1.length : Int))) = true then (((rd? p1 x137).bind fun u177 => if (u177.1 == p2) = true then ((app? 5864062014805 x136 [(u177.1, u177.2.1, u177.2.2)]).bind fun x183 => some x183) else (some x136)).bind fun (o : (List ((Int) × (Int) × (Int)))) => match o with | x175 => (spec_SpansOf.l1 p1 p2 kf x175 (IntKind.i64.wrap (x137 + 1)))) else (some x136)
def spec_SpansOf.f (p0 : List ((Int) × (List (Int)))) (p1 : List ((Int) × (Int) × (Int))) (p2 : Int) : Option ((List ((Int) × (Int) × (Int))) × Bool) := (spec_IsPlain.f p0).bind fun u20 => (if (!u20.1) = true then (some true) else (if (!u20.2) = true then (some true) else (if (decide ((p1.length : Int) > 200)) = true then (some true) else ((spec_l1In.f p2 0 (IntKind.i64.wrap ((p0.length : Int) - 1))).bind fun u30 => some (!u30))))).bind fun (o : Bool) => match o with | x26 => (if x26 = true then (some ([], false)) else ((spec_SpansOf.l1 p1 p2 ((((p1.length : Int)) - (0)).toNat + 2) [] 0).bind fun (o : (List ((Int) × (Int) × (Int)))) => match o with | x111 => (some (x111, true))))
def spec_SpansOf.post (sb s : St) (F0 : Fp) (r : (List ((Int) × (Int) × (Int))) × Bool) : Value → St → Prop := fun v s' => ∃ (A0 : Option Addr) (c0 : Nat), v = .tuple #[.slice A0 r.1.length c0, .bool r.2] ∧ Hp sb s F0 s' [Ck.ol OS138 138 A0 c0 r.1]
set_option maxRecDepth 100000 in
set_option maxHeartbeats 4000000 in
theorem spec_SpansOf.ok (sb s : St) (F0 : Fp) (A0p : Option Addr) (c0p : Nat) (p0 : List ((Int) × (List (Int)))) (A1p : Option Addr) (c1p : Nat) (p1 : List ((Int) × (Int) × (Int))) (p2 : Int) (HRp0 : Rd KS139 sb A0p c0p p0) (HRp1 : Rd KS138 sb A1p c1p p1) (hH : Hp sb s F0 s []) (r : (List ((Int) × (Int) × (Int))) × Bool) (H : spec_SpansOf.f p0 p1 p2 = some r) : GCall Try.prog 39 #[.slice A0p p0.length c0p, .slice A1p p1.length c1p, .int .i64 p2] s (spec_SpansOf.post sb s F0 r) := by
  refine GCall_ofk [.tmp 6, .tmp 7] [.slice A0p p0.length c0p, .slice A1p p1.length c1p, .int .i64 p2, undef, undef, undef, undef, undef, undef, undef, undef, undef, undef, undef, undef, undef, undef, undef, undef, undef, undef, undef, undef, undef, undef, undef, undef, undef, undef, undef, undef, undef, undef, undef, undef, undef, undef, undef, undef, undef, undef, undef, undef, undef, undef, undef, undef, undef, undef, undef, undef, undef, undef] Try.func39 rfl rfl rfl ?_
  intro w Q hQr hQn hQp
  replace H := topE H
  unfold spec_SpansOf.f at H
  refine HT_seq_k ?_
  intro K1 hK1
  refine HT_region ?_
  refine HL_cons rfl ?_
  refine o_assign ?_
  try dsimp only [putL, setL, evL, getL]
  refine HL_cons rfl ?_
  refine o_assign ?_
  try dsimp only [putL, setL, evL, getL]
  refine HL_nil ?_
  refine hK1 _ _ ?_
  refine HT_seq_k ?_
  intro K18 hK18
  refine HT_seq_k ?_
  intro K19 hK19
  refine HT_region ?_
  refine HL_cons rfl ?_
  refine o_move ?_
  try dsimp only [putL, setL, evL, getL]
  replace H := headE H
  obtain ⟨u20, hu20, H⟩ := H
  refine HL_cons rfl ?_
  refine o_call (args := #[.slice A0p p0.length c0p]) Try.func128 rfl rfl rfl (spec_IsPlain.ok sb s no A0p c0p p0 HRp0 (Hp.own hH.bs) _ hu20) ?_
  rintro _ s20 ⟨rfl, hD⟩
  replace hH := hH.back0 hD (Up.refl _ _ _)
  clear hD
  dsimp only [addC, setC, rmC, selC, getC] at hH
  try dsimp only [putL, setL, evL, getL]
  refine HL_cons rfl ?_
  refine o_move ?_
  try dsimp only [putL, setL, evL, getL]
  refine HL_cons rfl ?_
  refine o_extract rfl rfl ?_
  try dsimp only [putL, setL, evL, getL]
  refine HL_cons rfl ?_
  refine o_extract rfl rfl ?_
  try dsimp only [putL, setL, evL, getL]
  refine HL_cons rfl ?_
  refine o_assign ?_
  try dsimp only [putL, setL, evL, getL]
  refine HL_cons rfl ?_
  refine o_assign ?_
  try dsimp only [putL, setL, evL, getL]
  refine HL_nil ?_
  refine hK19 _ _ ?_
  refine joinH H fun G21 hG21 H => ?_
  refine HT_joinK (fun l' s' => ∃ (x26 : Bool), G21 x26 = some r ∧ l' = [.slice A0p p0.length c0p, .slice A1p p1.length c1p, .int .i64 p2, undef, undef, undef, .slice none 0 0, .bool false, .bool u20.1, .bool u20.2, undef, undef, undef, .tuple #[.bool u20.1, .bool u20.2], .slice A0p p0.length c0p, .tuple #[.bool u20.1, .bool u20.2], .bool u20.1, .bool u20.2, getL l' 18, getL l' 19, getL l' 20, getL l' 21, getL l' 22, getL l' 23, getL l' 24, getL l' 25, getL l' 26, getL l' 27, getL l' 28, getL l' 29, getL l' 30, getL l' 31, getL l' 32, getL l' 33, getL l' 34, getL l' 35, .bool x26, undef, undef, undef, undef, undef, undef, undef, undef, undef, undef, undef, undef, undef, undef, undef, undef] ∧ Hp sb s F0 s' []) ?_ ?_
  · intro K21 hK21
    refine HT_region ?_
    refine HL_cons rfl ?_
    refine o_move ?_
    try dsimp only [putL, setL, evL, getL]
    refine HL_cons rfl ?_
    refine o_not rfl ?_
    try dsimp only [putL, setL, evL, getL]
    refine HL_cons rfl ?_
    refine o_move ?_
    try dsimp only [putL, setL, evL, getL]
    rcases Bool.eq_false_or_eq_true (!u20.1) with hb27 | hb27
    · replace H := iteT hb27 H
      refine HL_skip ?_ ?_
      · exact wantF (j := 2) (b := false) (t := 20) (c := !u20.1) rfl rfl rfl rfl hb27
      try dsimp only [putL, setL, evL, getL]
      refine HL_skip ?_ ?_
      · exact wantF (j := 2) (b := false) (t := 20) (c := !u20.1) rfl rfl rfl rfl hb27
      try dsimp only [putL, setL, evL, getL]
      refine HL_cons rfl ?_
      refine o_pickT rfl hb27 ?_
      try dsimp only [putL, setL, evL, getL]
      refine HL_cons rfl ?_
      refine o_move ?_
      try dsimp only [putL, setL, evL, getL]
      refine HL_skip ?_ ?_
      · exact wantF (j := 6) (b := false) (t := 24) (c := true) rfl rfl rfl rfl rfl
      try dsimp only [putL, setL, evL, getL]
      refine HL_skip ?_ ?_
      · exact wantF (j := 6) (b := false) (t := 24) (c := true) rfl rfl rfl rfl rfl
      try dsimp only [putL, setL, evL, getL]
      refine HL_skip ?_ ?_
      · exact wantF (j := 6) (b := false) (t := 24) (c := true) rfl rfl rfl rfl rfl
      try dsimp only [putL, setL, evL, getL]
      refine HL_cons rfl ?_
      refine o_pickT rfl rfl ?_
      try dsimp only [putL, setL, evL, getL]
      refine HL_cons rfl ?_
      refine o_move ?_
      try dsimp only [putL, setL, evL, getL]
      refine HL_skip ?_ ?_
      · exact wantF (j := 11) (b := false) (t := 29) (c := true) rfl rfl rfl rfl rfl
      try dsimp only [putL, setL, evL, getL]
      refine HL_skip ?_ ?_
      · exact wantF (j := 11) (b := false) (t := 29) (c := true) rfl rfl rfl rfl rfl
      try dsimp only [putL, setL, evL, getL]
      refine HL_skip ?_ ?_
      · exact wantF (j := 11) (b := false) (t := 29) (c := true) rfl rfl rfl rfl rfl
      try dsimp only [putL, setL, evL, getL]
      refine HL_skip ?_ ?_
      · exact wantF (j := 11) (b := false) (t := 29) (c := true) rfl rfl rfl rfl rfl
      try dsimp only [putL, setL, evL, getL]
      refine HL_skip ?_ ?_
      · exact wantF (j := 11) (b := false) (t := 29) (c := true) rfl rfl rfl rfl rfl
      try dsimp only [putL, setL, evL, getL]
      refine HL_skip ?_ ?_
      · exact wantF (j := 11) (b := false) (t := 29) (c := true) rfl rfl rfl rfl rfl
      try dsimp only [putL, setL, evL, getL]
      refine HL_cons rfl ?_
      refine o_pickT rfl rfl ?_
      try dsimp only [putL, setL, evL, getL]
      refine HL_nil ?_
      exact hK21 _ _ ⟨true, H, rfl, hH⟩
    · replace H := iteF hb27 H
      refine HL_want ?_ ?_
      · exact wantT (j := 2) (b := false) (t := 20) (c := !u20.1) rfl rfl rfl rfl hb27
      refine o_move ?_
      try dsimp only [putL, setL, evL, getL]
      refine HL_want ?_ ?_
      · exact wantT (j := 2) (b := false) (t := 20) (c := !u20.1) rfl rfl rfl rfl hb27
      refine o_not rfl ?_
      try dsimp only [putL, setL, evL, getL]
      refine HL_cons rfl ?_
      refine o_pickF rfl hb27 ?_
      try dsimp only [putL, setL, evL, getL]
      refine HL_cons rfl ?_
      refine o_move ?_
      try dsimp only [putL, setL, evL, getL]
      rcases Bool.eq_false_or_eq_true (!u20.2) with hb28 | hb28
      · replace H := iteT hb28 H
        refine HL_skip ?_ ?_
        · exact wantF (j := 6) (b := false) (t := 24) (c := !u20.2) rfl rfl rfl rfl hb28
        try dsimp only [putL, setL, evL, getL]
        refine HL_skip ?_ ?_
        · exact wantF (j := 6) (b := false) (t := 24) (c := !u20.2) rfl rfl rfl rfl hb28
        try dsimp only [putL, setL, evL, getL]
        refine HL_skip ?_ ?_
        · exact wantF (j := 6) (b := false) (t := 24) (c := !u20.2) rfl rfl rfl rfl hb28
        try dsimp only [putL, setL, evL, getL]
        refine HL_cons rfl ?_
        refine o_pickT rfl hb28 ?_
        try dsimp only [putL, setL, evL, getL]
        refine HL_cons rfl ?_
        refine o_move ?_
        try dsimp only [putL, setL, evL, getL]
        refine HL_skip ?_ ?_
        · exact wantF (j := 11) (b := false) (t := 29) (c := true) rfl rfl rfl rfl rfl
        try dsimp only [putL, setL, evL, getL]
        refine HL_skip ?_ ?_
        · exact wantF (j := 11) (b := false) (t := 29) (c := true) rfl rfl rfl rfl rfl
        try dsimp only [putL, setL, evL, getL]
        refine HL_skip ?_ ?_
        · exact wantF (j := 11) (b := false) (t := 29) (c := true) rfl rfl rfl rfl rfl
        try dsimp only [putL, setL, evL, getL]
        refine HL_skip ?_ ?_
        · exact wantF (j := 11) (b := false) (t := 29) (c := true) rfl rfl rfl rfl rfl
        try dsimp only [putL, setL, evL, getL]
        refine HL_skip ?_ ?_
        · exact wantF (j := 11) (b := false) (t := 29) (c := true) rfl rfl rfl rfl rfl
        try dsimp only [putL, setL, evL, getL]
        refine HL_skip ?_ ?_
        · exact wantF (j := 11) (b := false) (t := 29) (c := true) rfl rfl rfl rfl rfl
        try dsimp only [putL, setL, evL, getL]
        refine HL_cons rfl ?_
        refine o_pickT rfl rfl ?_
        try dsimp only [putL, setL, evL, getL]
        refine HL_nil ?_
        exact hK21 _ _ ⟨true, H, rfl, hH⟩
      · replace H := iteF hb28 H
        refine HL_want ?_ ?_
        · exact wantT (j := 6) (b := false) (t := 24) (c := !u20.2) rfl rfl rfl rfl hb28
        refine o_move ?_
        try dsimp only [putL, setL, evL, getL]
        refine HL_want ?_ ?_
        · exact wantT (j := 6) (b := false) (t := 24) (c := !u20.2) rfl rfl rfl rfl hb28
        refine o_len rfl Try.underlying54 ?_
        try dsimp only [putL, setL, evL, getL]
        refine HL_want ?_ ?_
        · exact wantT (j := 6) (b := false) (t := 24) (c := !u20.2) rfl rfl rfl rfl hb28
        refine o_bin rfl rfl rfl ?_
        try dsimp only [putL, setL, evL, getL]
        refine HL_cons rfl ?_
        refine o_pickF rfl hb28 ?_
        try dsimp only [putL, setL, evL, getL]
        refine HL_cons rfl ?_
        refine o_move ?_
        try dsimp only [putL, setL, evL, getL]
        rcases Bool.eq_false_or_eq_true (decide ((p1.length : Int) > 200)) with hb29 | hb29
        · replace H := iteT hb29 H
          refine HL_skip ?_ ?_
          · exact wantF (j := 11) (b := false) (t := 29) (c := decide ((p1.length : Int) > 200)) rfl rfl rfl rfl hb29
          try dsimp only [putL, setL, evL, getL]
          refine HL_skip ?_ ?_
          · exact wantF (j := 11) (b := false) (t := 29) (c := decide ((p1.length : Int) > 200)) rfl rfl rfl rfl hb29
          try dsimp only [putL, setL, evL, getL]
          refine HL_skip ?_ ?_
          · exact wantF (j := 11) (b := false) (t := 29) (c := decide ((p1.length : Int) > 200)) rfl rfl rfl rfl hb29
          try dsimp only [putL, setL, evL, getL]
          refine HL_skip ?_ ?_
          · exact wantF (j := 11) (b := false) (t := 29) (c := decide ((p1.length : Int) > 200)) rfl rfl rfl rfl hb29
          try dsimp only [putL, setL, evL, getL]
          refine HL_skip ?_ ?_
          · exact wantF (j := 11) (b := false) (t := 29) (c := decide ((p1.length : Int) > 200)) rfl rfl rfl rfl hb29
          try dsimp only [putL, setL, evL, getL]
          refine HL_skip ?_ ?_
          · exact wantF (j := 11) (b := false) (t := 29) (c := decide ((p1.length : Int) > 200)) rfl rfl rfl rfl hb29
          try dsimp only [putL, setL, evL, getL]
          refine HL_cons rfl ?_
          refine o_pickT rfl hb29 ?_
          try dsimp only [putL, setL, evL, getL]
          refine HL_nil ?_
          exact hK21 _ _ ⟨true, H, rfl, hH⟩
        · replace H := iteF hb29 H
          refine HL_want ?_ ?_
          · exact wantT (j := 11) (b := false) (t := 29) (c := decide ((p1.length : Int) > 200)) rfl rfl rfl rfl hb29
          refine o_move ?_
          try dsimp only [putL, setL, evL, getL]
          refine HL_want ?_ ?_
          · exact wantT (j := 11) (b := false) (t := 29) (c := decide ((p1.length : Int) > 200)) rfl rfl rfl rfl hb29
          refine o_move ?_
          try dsimp only [putL, setL, evL, getL]
          refine HL_want ?_ ?_
          · exact wantT (j := 11) (b := false) (t := 29) (c := decide ((p1.length : Int) > 200)) rfl rfl rfl rfl hb29
          refine o_len rfl Try.underlying57 ?_
          try dsimp only [putL, setL, evL, getL]
          refine HL_want ?_ ?_
          · exact wantT (j := 11) (b := false) (t := 29) (c := decide ((p1.length : Int) > 200)) rfl rfl rfl rfl hb29
          refine o_bin rfl rfl rfl ?_
          try dsimp only [putL, setL, evL, getL]
          replace H := headE H
          obtain ⟨u30, hu30, H⟩ := H
          refine HL_want ?_ ?_
          · exact wantT (j := 11) (b := false) (t := 29) (c := decide ((p1.length : Int) > 200)) rfl rfl rfl rfl hb29
          refine o_call (args := #[.int .i64 p2, .int .i64 0, .int .i64 (IntKind.i64.wrap ((p0.length : Int) - 1))]) Try.func108 rfl rfl rfl (spec_l1In.ok sb s20 no p2 0 (IntKind.i64.wrap ((p0.length : Int) - 1)) (Hp.own hH.bs) _ hu30) ?_
          rintro _ s30 ⟨rfl, hD⟩
          replace hH := hH.back0 hD (Up.refl _ _ _)
          clear hD
          dsimp only [addC, setC, rmC, selC, getC] at hH
          try dsimp only [putL, setL, evL, getL]
          refine HL_want ?_ ?_
          · exact wantT (j := 11) (b := false) (t := 29) (c := decide ((p1.length : Int) > 200)) rfl rfl rfl rfl hb29
          refine o_not rfl ?_
          try dsimp only [putL, setL, evL, getL]
          refine HL_cons rfl ?_
          refine o_pickF rfl hb29 ?_
          try dsimp only [putL, setL, evL, getL]
          refine HL_nil ?_
          exact hK21 _ _ ⟨!u30, H, rfl, hH⟩
  · rintro l' s31 ⟨x26, H, hl, hH⟩
    generalize getL l' 18 = j18, getL l' 19 = j19, getL l' 20 = j20, getL l' 21 = j21, getL l' 22 = j22, getL l' 23 = j23, getL l' 24 = j24, getL l' 25 = j25, getL l' 26 = j26, getL l' 27 = j27, getL l' 28 = j28, getL l' 29 = j29, getL l' 30 = j30, getL l' 31 = j31, getL l' 32 = j32, getL l' 33 = j33, getL l' 34 = j34, getL l' 35 = j35 at hl
    subst hl
    replace H := hG21 _ H
    try dsimp only at H
    rcases Bool.eq_false_or_eq_true x26 with hb32 | hb32
    · replace H := iteT hb32 H
      refine HT_true (congrArg Value.bool hb32) ?_
      refine HT_seq_k ?_
      intro K33 hK33
      refine HT_region ?_
      refine HL_cons rfl ?_
      refine o_assign ?_
      try dsimp only [putL, setL, evL, getL]
      refine HL_cons rfl ?_
      refine o_assign ?_
      try dsimp only [putL, setL, evL, getL]
      refine HL_nil ?_
      refine hK33 _ _ ?_
      refine HT_ret ?_
      exact hQr _ _ [.slice none 0 0, .bool false] ⟨rfl, rfl, trivial⟩ (retH (fun r => spec_SpansOf.post sb s F0 r _ _) (show some _ = some r from H) ⟨none, 0, rfl, (hH.nil (K := KS138) OS138 138)⟩)
    · replace H := iteF hb32 H
      refine HT_false (congrArg Value.bool hb32) ?_
      refine HT_skip ?_
      refine hK18 _ _ ?_
      refine HT_seq_k ?_
      intro K34 hK34
      refine HT_region ?_
      refine HL_cons rfl ?_
      refine o_assign ?_
      try dsimp only [putL, setL, evL, getL]
      refine HL_nil ?_
      refine hK34 _ _ ?_
      refine HT_seq_k ?_
      intro K35 hK35
      refine HT_seq_k ?_
      intro K36 hK36
      refine HT_region ?_
      refine HL_cons rfl ?_
      refine o_move ?_
      try dsimp only [putL, setL, evL, getL]
      refine HL_cons rfl ?_
      refine o_len rfl Try.underlying54 ?_
      try dsimp only [putL, setL, evL, getL]
      refine HL_cons rfl ?_
      refine o_move ?_
      try dsimp only [putL, setL, evL, getL]
      refine HL_nil ?_
      refine hK36 _ _ ?_
      refine joinH H fun G37 hG37 H => ?_
      refine HT_toK (fun l' s' => ∃ (x111 : List ((Int) × (Int) × (Int))) (A111 : Option Addr) (c111 : Nat), G37 x111 = some r ∧ l' = [.slice A0p p0.length c0p, .slice A1p p1.length c1p, .int .i64 p2, undef, undef, undef, .slice none 0 0, .bool false, .bool u20.1, .bool u20.2, .slice A111 x111.length c111, undef, getL l' 12, .tuple #[.bool u20.1, .bool u20.2], .slice A0p p0.length c0p, .tuple #[.bool u20.1, .bool u20.2], .bool u20.1, .bool u20.2, j18, j19, j20, j21, j22, j23, j24, j25, j26, j27, j28, j29, j30, j31, j32, j33, j34, j35, .bool x26, .slice A1p p1.length c1p, .int .i64 (p1.length : Int), getL l' 39, getL l' 40, getL l' 41, getL l' 42, getL l' 43, getL l' 44, getL l' 45, getL l' 46, getL l' 47, getL l' 48, getL l' 49, getL l' 50, getL l' 51, undef] ∧ Hp sb s F0 s' [Ck.ol OS138 138 A111 c111 x111]) ?_ ?_
      · intro K37 hK37
        refine HT_block ?_
        refine HT_loopK (fun kf l' s' => ∃ (x136 : List ((Int) × (Int) × (Int))) (A136 : Option Addr) (c136 : Nat) (x137 : Int), (spec_SpansOf.l1 p1 p2 kf x136 x137).bind G37 = some r ∧ l' = [.slice A0p p0.length c0p, .slice A1p p1.length c1p, .int .i64 p2, undef, undef, undef, .slice none 0 0, .bool false, .bool u20.1, .bool u20.2, .slice A136 x136.length c136, undef, getL l' 12, .tuple #[.bool u20.1, .bool u20.2], .slice A0p p0.length c0p, .tuple #[.bool u20.1, .bool u20.2], .bool u20.1, .bool u20.2, j18, j19, j20, j21, j22, j23, j24, j25, j26, j27, j28, j29, j30, j31, j32, j33, j34, j35, .bool x26, .slice A1p p1.length c1p, .int .i64 (p1.length : Int), .int .i64 x137, getL l' 40, getL l' 41, getL l' 42, getL l' 43, getL l' 44, getL l' 45, getL l' 46, getL l' 47, getL l' 48, getL l' 49, getL l' 50, getL l' 51, undef] ∧ Hp sb s F0 s' [Ck.ol OS138 138 A136 c136 x136]) ((((p1.length : Int)) - (0)).toNat + 2) ⟨[], none, 0, 0, H, rfl, (hH.nil (K := KS138) OS138 138)⟩ ?_
        rintro kf l' s162 ⟨x136, A136, c136, x137, H, hl, hH⟩ K162 hK162
        generalize getL l' 12 = j12, getL l' 40 = j40, getL l' 41 = j41, getL l' 42 = j42, getL l' 43 = j43, getL l' 44 = j44, getL l' 45 = j45, getL l' 46 = j46, getL l' 47 = j47, getL l' 48 = j48, getL l' 49 = j49, getL l' 50 = j50, getL l' 51 = j51 at hl
        subst hl
        cases kf with
        | zero => simp [spec_SpansOf.l1] at H
        | succ kf =>
          rw [spec_SpansOf.l1] at H
          refine HT_seq_k ?_
          intro K163 hK163
          refine HT_region ?_
          refine HL_cons rfl ?_
          refine o_bin rfl rfl rfl ?_
          try dsimp only [putL, setL, evL, getL]
          refine HL_nil ?_
          refine hK163 _ _ ?_
          refine HT_seq_k ?_
          intro K164 hK164
          rcases Bool.eq_false_or_eq_true (decide (x137 < (p1.length : Int))) with hb165 | hb165
          · replace H := iteT hb165 H
            refine HT_true (congrArg Value.bool hb165) ?_
            refine HT_skip ?_
            refine hK164 _ _ ?_
            refine joinH H fun G166 hG166 H => ?_
            refine HT_joinK (fun l' s' => ∃ (x175 : List ((Int) × (Int) × (Int))) (A175 : Option Addr) (c175 : Nat), G166 x175 = some r ∧ l' = [.slice A0p p0.length c0p, .slice A1p p1.length c1p, .int .i64 p2, undef, undef, undef, .slice none 0 0, .bool false, .bool u20.1, .bool u20.2, .slice A175 x175.length c175, undef, getL l' 12, .tuple #[.bool u20.1, .bool u20.2], .slice A0p p0.length c0p, .tuple #[.bool u20.1, .bool u20.2], .bool u20.1, .bool u20.2, j18, j19, j20, j21, j22, j23, j24, j25, j26, j27, j28, j29, j30, j31, j32, j33, j34, j35, .bool x26, .slice A1p p1.length c1p, .int .i64 (p1.length : Int), .int .i64 x137, .bool (decide (x137 < (p1.length : Int))), getL l' 41, getL l' 42, getL l' 43, getL l' 44, getL l' 45, getL l' 46, getL l' 47, getL l' 48, getL l' 49, getL l' 50, j51, undef] ∧ Hp sb s F0 s' [Ck.ol OS138 138 A175 c175 x175]) ?_ ?_
            · intro K166 hK166
              refine HT_block ?_
              refine HT_seq_k ?_
              intro K176 hK176
              refine HT_region ?_
              replace H := headE H
              obtain ⟨u177, hu177, H⟩ := H
              obtain ⟨b177, o177, cs177, hr177, hh177, hel177⟩ := Rd.elb HRp1 hu177
              obtain ⟨_, _, rfl, rfl, ⟨_, _, rfl, rfl, rfl⟩⟩ := hr177
              refine HL_cons rfl ?_
              refine hel177 s162 rfl rfl Try.underlying54 tI138 ?_
              try dsimp only [putL, setL, evL, getL]
              refine HL_cons rfl ?_
              refine o_loads' [.int .i64 u177.1, .int .i64 u177.2.1, .int .i64 u177.2.2] rfl Try.underlying138 rfl tI138 rfl (fun j v hj => (hh177 hH.bs.mono) j v hj) ?_
              try dsimp only [putL, setL, evL, getL]
              refine HL_cons rfl ?_
              refine o_allocH hH tI138 ?_
              intro b178 s178 hH' hG
              replace hH : Hp sb s F0 s178 [Ck.ol OS138 138 A136 c136 x136, Ck.ov b178 [.int .i64 0, .int .i64 0, .int .i64 0] 138] := hH'
              clear hH' hG
              try dsimp only [putL, setL, evL, getL]
              refine HL_cons rfl ?_
              refine o_stvH (vs := [.int .i64 u177.1, .int .i64 u177.2.1, .int .i64 u177.2.2]) (us' := [.int .i64 u177.1, .int .i64 u177.2.1, .int .i64 u177.2.2]) hH 1 rfl rfl rfl rfl rfl tI138 rfl (List.cons_ne_nil _ _) rfl rfl rfl ?_
              intro s179 hH'
              replace hH : Hp sb s F0 s179 [Ck.ol OS138 138 A136 c136 x136, Ck.ov b178 [.int .i64 u177.1, .int .i64 u177.2.1, .int .i64 u177.2.2] 138] := hH'
              clear hH'
              try dsimp only [putL, setL, evL, getL]
              refine HL_nil ?_
              refine hK176 _ _ ?_
              refine HT_seq_k ?_
              intro K180 hK180
              refine HT_region ?_
              refine HL_cons rfl ?_
              refine o_faddr' (ft := 3) (off := 0) rfl Try.underlying138 rfl tI3 (by decide) ?_
              try dsimp only [putL, setL, evL, getL]
              refine HL_cons rfl ?_
              refine o_load' rfl Try.underlying3 rfl (hH.hasv 1 rfl rfl) ?_
              try dsimp only [putL, setL, evL, getL]
              refine HL_cons rfl ?_
              refine o_move ?_
              try dsimp only [putL, setL, evL, getL]
              refine HL_cons rfl ?_
              refine o_bin rfl rfl rfl ?_
              try dsimp only [putL, setL, evL, getL]
              refine HL_nil ?_
              refine hK180 _ _ ?_
              rcases Bool.eq_false_or_eq_true (u177.1 == p2) with hb181 | hb181
              · replace H := iteT hb181 H
                refine HT_true (congrArg Value.bool hb181) ?_
                refine HT_region ?_
                refine HL_cons rfl ?_
                refine o_move ?_
                try dsimp only [putL, setL, evL, getL]
                refine HL_cons rfl ?_
                refine o_loads' [.int .i64 u177.1, .int .i64 u177.2.1, .int .i64 u177.2.2] rfl Try.underlying138 rfl tI138 rfl (hH.partv 1 rfl (0) [.int .i64 u177.1, .int .i64 u177.2.1, .int .i64 u177.2.2] rfl) ?_
                try dsimp only [putL, setL, evL, getL]
                refine HL_cons rfl ?_
                refine o_litF (K := KS138) (O := OS138) (ca := #[.int .i64 u177.1, .int .i64 u177.2.1, .int .i64 u177.2.2]) [[.int .i64 u177.1, .int .i64 u177.2.1, .int .i64 u177.2.2]] [(u177.1, u177.2.1, u177.2.2)] hH Try.underlying54 tI138 rfl (by decide) rfl rfl (by kernel_rfl) rfl ⟨rfl, Ent.own (Ent.pair (v1 := [.int .i64 u177.1]) (v2 := [.int .i64 u177.2.1, .int .i64 u177.2.2]) (x1 := u177.1) (x2 := (u177.2.1, u177.2.2)) (Ent.flat rfl) (Ent.pair (v1 := [.int .i64 u177.2.1]) (v2 := [.int .i64 u177.2.2]) (x1 := u177.2.1) (x2 := u177.2.2) (Ent.flat rfl) (Ent.flat rfl))), trivial⟩ ?_
                intro A182 s182 hH' hG
                replace hH : Hp sb s F0 s182 [Ck.ol OS138 138 A136 c136 x136, Ck.ov b178 [.int .i64 u177.1, .int .i64 u177.2.1, .int .i64 u177.2.2] 138, Ck.ol OS138 138 A182 1 [(u177.1, u177.2.1, u177.2.2)]] := hH'
                clear hH' hG
                try dsimp only [putL, setL, evL, getL]
                replace H := headE H
                obtain ⟨x183, hx183, H⟩ := H
                refine HL_cons rfl ?_
                refine o_appF (K := KS138) (n := 5864062014805) (A := A136) (c := c136) (xs := x136) (ys := [(u177.1, u177.2.1, u177.2.2)]) (B := A182) (c2 := 1) hH 0 rfl rfl rfl rfl Try.underlying54 tI138 rfl (by decide) (by decide) (by decide) (Src.flat (hH.rd 2 rfl)) hx183 ?_
                intro A183 c183 s183 hH'
                replace hH : Hp sb s F0 s183 [Ck.ol OS138 138 A183 c183 x183, Ck.ov b178 [.int .i64 u177.1, .int .i64 u177.2.1, .int .i64 u177.2.2] 138, Ck.ol OS138 138 A182 1 [(u177.1, u177.2.1, u177.2.2)]] := hH'
                clear hH'
                try dsimp only [putL, setL, evL, getL]
                refine HL_cons rfl ?_
                refine o_assign ?_
                try dsimp only [putL, setL, evL, getL]
                refine HL_nil ?_
                exact hK166 _ _ ⟨x183, A183, c183, H, rfl, hH.sel [0] (by decide)⟩
              · replace H := iteF hb181 H
                refine HT_false (congrArg Value.bool hb181) ?_
                refine HT_skip ?_
                exact hK166 _ _ ⟨x136, A136, c136, H, rfl, hH.sel [0] (by decide)⟩
            · rintro l' s184 ⟨x175, A175, c175, H, hl, hH⟩
              generalize getL l' 12 = j12, getL l' 41 = j41, getL l' 42 = j42, getL l' 43 = j43, getL l' 44 = j44, getL l' 45 = j45, getL l' 46 = j46, getL l' 47 = j47, getL l' 48 = j48, getL l' 49 = j49, getL l' 50 = j50 at hl
              subst hl
              replace H := hG166 _ H
              try dsimp only at H
              refine HT_region ?_
              refine HL_cons rfl ?_
              refine o_bin rfl rfl rfl ?_
              try dsimp only [putL, setL, evL, getL]
              refine HL_cons rfl ?_
              refine o_move ?_
              try dsimp only [putL, setL, evL, getL]
              refine HL_nil ?_
              exact hK162 _ _ ⟨kf, Nat.lt_succ_self kf, x175, A175, c175, IntKind.i64.wrap (x137 + 1), H, rfl, hH⟩
          · replace H := iteF hb165 H
            refine HT_false (congrArg Value.bool hb165) ?_
            refine HT_exit ?_
            exact hK37 _ _ ⟨x136, A136, c136, H, rfl, hH⟩
      · rintro l' s185 ⟨x111, A111, c111, H, hl, hH⟩
        generalize getL l' 12 = j12, getL l' 39 = j39, getL l' 40 = j40, getL l' 41 = j41, getL l' 42 = j42, getL l' 43 = j43, getL l' 44 = j44, getL l' 45 = j45, getL l' 46 = j46, getL l' 47 = j47, getL l' 48 = j48, getL l' 49 = j49, getL l' 50 = j50, getL l' 51 = j51 at hl
        subst hl
        replace H := hG37 _ H
        try dsimp only at H
        refine hK35 _ _ ?_
        refine HT_seq_k ?_
        intro K186 hK186
        refine HT_region ?_
        refine HL_cons rfl ?_
        refine o_move ?_
        try dsimp only [putL, setL, evL, getL]
        refine HL_cons rfl ?_
        refine o_assign ?_
        try dsimp only [putL, setL, evL, getL]
        refine HL_cons rfl ?_
        refine o_assign ?_
        try dsimp only [putL, setL, evL, getL]
        refine HL_nil ?_
        refine hK186 _ _ ?_
        refine HT_ret ?_
        exact hQr _ _ [.slice A111 x111.length c111, .bool true] ⟨rfl, rfl, trivial⟩ (retH (fun r => spec_SpansOf.post sb s F0 r _ _) (show some _ = some r from H) ⟨A111, c111, rfl, hH⟩)
def impl_inRange.f (p0 : Int) (p1 : Int) (p2 : Int) : Option Bool := if (decide (p1 ≤ p0)) = true then (some (decide (p0 ≤ p2))) else (some false)
def impl_inRange.post (sb s : St) (F0 : Fp) (r : Bool) : Value → St → Prop := fun v s' => v = .bool r ∧ Hp sb s F0 s' []
set_option maxRecDepth 100000 in
set_option maxHeartbeats 4000000 in
theorem impl_inRange.ok (sb s : St) (F0 : Fp) (p0 : Int) (p1 : Int) (p2 : Int) (hH : Hp sb s F0 s []) (r : Bool) (H : impl_inRange.f p0 p1 p2 = some r) : GCall Try.prog 105 #[.int .i64 p0, .int .i64 p1, .int .i64 p2] s (impl_inRange.post sb s F0 r) := by
  refine GCall_ofk [.tmp 6] [.int .i64 p0, .int .i64 p1, .int .i64 p2, undef, undef, undef, undef, undef, undef, undef, undef, undef, undef, undef, undef] Try.func105 rfl rfl rfl ?_
  intro w Q hQr hQn hQp
  replace H := topE H
  unfold impl_inRange.f at H
  refine HT_seq_k ?_
  intro K1 hK1
  refine HT_region ?_
  refine HL_cons rfl ?_
  refine o_assign ?_
  try dsimp only [putL, setL, evL, getL]
  refine HL_nil ?_
  refine hK1 _ _ ?_
  refine HT_seq_k ?_
  intro K2 hK2
  refine HT_region ?_
  refine HL_cons rfl ?_
  refine o_move ?_
  try dsimp only [putL, setL, evL, getL]
  refine HL_cons rfl ?_
  refine o_move ?_
  try dsimp only [putL, setL, evL, getL]
  refine HL_cons rfl ?_
  refine o_bin rfl rfl rfl ?_
  try dsimp only [putL, setL, evL, getL]
  refine HL_cons rfl ?_
  refine o_move ?_
  try dsimp only [putL, setL, evL, getL]
  rcases Bool.eq_false_or_eq_true (decide (p1 ≤ p0)) with hb3 | hb3
  · replace H := iteT hb3 H
    refine HL_want ?_ ?_
    · exact wantT (j := 3) (b := true) (t := 10) (c := decide (p1 ≤ p0)) rfl rfl rfl rfl hb3
    refine o_move ?_
    try dsimp only [putL, setL, evL, getL]
    refine HL_want ?_ ?_
    · exact wantT (j := 3) (b := true) (t := 10) (c := decide (p1 ≤ p0)) rfl rfl rfl rfl hb3
    refine o_move ?_
    try dsimp only [putL, setL, evL, getL]
    refine HL_want ?_ ?_
    · exact wantT (j := 3) (b := true) (t := 10) (c := decide (p1 ≤ p0)) rfl rfl rfl rfl hb3
    refine o_bin rfl rfl rfl ?_
    try dsimp only [putL, setL, evL, getL]
    refine HL_cons rfl ?_
    refine o_pickT rfl hb3 ?_
    try dsimp only [putL, setL, evL, getL]
    refine HL_cons rfl ?_
    refine o_assign ?_
    try dsimp only [putL, setL, evL, getL]
    refine HL_nil ?_
    refine hK2 _ _ ?_
    refine HT_ret ?_
    exact hQr _ _ [.bool (decide (p0 ≤ p2))] ⟨rfl, trivial⟩ (retH (fun r => impl_inRange.post sb s F0 r _ _) (show some _ = some r from H) ⟨rfl, hH⟩)
  · replace H := iteF hb3 H
    refine HL_skip ?_ ?_
    · exact wantF (j := 3) (b := true) (t := 10) (c := decide (p1 ≤ p0)) rfl rfl rfl rfl hb3
    try dsimp only [putL, setL, evL, getL]
    refine HL_skip ?_ ?_
    · exact wantF (j := 3) (b := true) (t := 10) (c := decide (p1 ≤ p0)) rfl rfl rfl rfl hb3
    try dsimp only [putL, setL, evL, getL]
    refine HL_skip ?_ ?_
    · exact wantF (j := 3) (b := true) (t := 10) (c := decide (p1 ≤ p0)) rfl rfl rfl rfl hb3
    try dsimp only [putL, setL, evL, getL]
    refine HL_cons rfl ?_
    refine o_pickF rfl hb3 ?_
    try dsimp only [putL, setL, evL, getL]
    refine HL_cons rfl ?_
    refine o_assign ?_
    try dsimp only [putL, setL, evL, getL]
    refine HL_nil ?_
    refine hK2 _ _ ?_
    refine HT_ret ?_
    exact hQr _ _ [.bool false] ⟨rfl, trivial⟩ (retH (fun r => impl_inRange.post sb s F0 r _ _) (show some _ = some r from H) ⟨rfl, hH⟩)
def impl_GoodSet.l1 (p0 : List (Int)) : Nat → Int → Option (Lo Unit Bool)
  | 0, _ => none
  | kf + 1, x300 => if (decide (x300 < (p0.length : Int))) = true then ((rd? p0 x300).bind fun u416 => ((if (decide (x300 > 0)) = true then ((rem? x300 2).bind fun u437 => some (u437 == 0)) else (some false)).bind fun (o : Bool) => match o with | x435 => (if x435 = true then ((rd? p0 (IntKind.i64.wrap (x300 - 1))).bind fun u440 => some (IntKind.i64.wrap (u440 + 2))) else (if (decide (x300 > 0)) = true then ((rd? p0 (IntKind.i64.wrap (x300 - 1))).bind fun u443 => some u443) else (some 0)))).bind fun (o : Int) => match o with | x431 => ((impl_inRange.f u416 x431 1114111).bind fun u446 => if (!u446) = true then ((some false).bind fun z => some (Lo.ret z)) else (impl_GoodSet.l1 p0 kf (IntKind.i64.wrap (x300 + 1))))) else (some (Lo.go ()))
def impl_GoodSet.f (p0 : List (Int)) : Option Bool := (impl_GoodSet.l1 p0 ((((p0.length : Int)) - (0)).toNat + 2) 0).bind fun (o : Lo Unit Bool) => match o with | .go () => ((rem? (p0.length : Int) 2).bind fun u451 => if (u451 == 0) = true then (some (decide ((p0.length : Int) ≤ 24))) else (some false)) | .ret z => some z
def impl_GoodSet.post (sb s : St) (F0 : Fp) (r : Bool) : Value → St → Prop := fun v s' => v = .bool r ∧ Hp sb s F0 s' []
set_option maxRecDepth 100000 in
set_option maxHeartbeats 4000000 in
theorem impl_GoodSet.ok (sb s : St) (F0 : Fp) (A0p : Option Addr) (c0p : Nat) (p0 : List (Int)) (HRp0 : Rd KI sb A0p c0p p0) (hH : Hp sb s F0 s []) (r : Bool) (H : impl_GoodSet.f p0 = some r) : GCall Try.prog 192 #[.slice A0p p0.length c0p] s (impl_GoodSet.post sb s F0 r) := by
  refine GCall_ofk [.tmp 2] [.slice A0p p0.length c0p, undef, undef, undef, undef, undef, undef, undef, undef, undef, undef, undef, undef, undef, undef, undef, undef, undef, undef, undef, undef, undef, undef, undef, undef, undef, undef, undef, undef, undef, undef, undef, undef, undef, undef, undef, undef, undef, undef, undef, undef, undef, undef, undef, undef, undef, undef, undef, undef] Try.func192 rfl rfl rfl ?_
  intro w Q hQr hQn hQp
  replace H := topE H
  unfold impl_GoodSet.f at H
  refine HT_seq_k ?_
  intro K1 hK1
  refine HT_region ?_
  refine HL_cons rfl ?_
  refine o_assign ?_
  try dsimp only [putL, setL, evL, getL]
  refine HL_nil ?_
  refine hK1 _ _ ?_
  refine HT_seq_k ?_
  intro K2 hK2
  refine HT_seq_k ?_
  intro K3 hK3
  refine HT_region ?_
  refine HL_cons rfl ?_
  refine o_move ?_
  try dsimp only [putL, setL, evL, getL]
  refine HL_cons rfl ?_
  refine o_len rfl Try.underlying24 ?_
  try dsimp only [putL, setL, evL, getL]
  refine HL_cons rfl ?_
  refine o_move ?_
  try dsimp only [putL, setL, evL, getL]
  refine HL_nil ?_
  refine hK3 _ _ ?_
  refine joinH H fun G4 hG4 H => ?_
  refine HT_toK (fun l' s' => G4 (.go ()) = some r ∧ l' = [.slice A0p p0.length c0p, undef, getL l' 2, getL l' 3, getL l' 4, getL l' 5, .slice A0p p0.length c0p, .int .i64 (p0.length : Int), getL l' 8, getL l' 9, getL l' 10, getL l' 11, getL l' 12, getL l' 13, getL l' 14, getL l' 15, getL l' 16, getL l' 17, getL l' 18, getL l' 19, getL l' 20, getL l' 21, getL l' 22, getL l' 23, getL l' 24, getL l' 25, getL l' 26, getL l' 27, getL l' 28, getL l' 29, getL l' 30, getL l' 31, getL l' 32, getL l' 33, getL l' 34, getL l' 35, getL l' 36, getL l' 37, getL l' 38, getL l' 39, undef, undef, undef, undef, undef, undef, undef, undef, undef] ∧ Hp sb s F0 s' []) ?_ ?_
  · intro K4 hK4
    refine HT_block ?_
    refine HT_loopK (fun kf l' s' => ∃ (x300 : Int), (impl_GoodSet.l1 p0 kf x300).bind G4 = some r ∧ l' = [.slice A0p p0.length c0p, undef, getL l' 2, getL l' 3, getL l' 4, getL l' 5, .slice A0p p0.length c0p, .int .i64 (p0.length : Int), .int .i64 x300, getL l' 9, getL l' 10, getL l' 11, getL l' 12, getL l' 13, getL l' 14, getL l' 15, getL l' 16, getL l' 17, getL l' 18, getL l' 19, getL l' 20, getL l' 21, getL l' 22, getL l' 23, getL l' 24, getL l' 25, getL l' 26, getL l' 27, getL l' 28, getL l' 29, getL l' 30, getL l' 31, getL l' 32, getL l' 33, getL l' 34, getL l' 35, getL l' 36, getL l' 37, getL l' 38, getL l' 39, undef, undef, undef, undef, undef, undef, undef, undef, undef] ∧ Hp sb s F0 s' []) ((((p0.length : Int)) - (0)).toNat + 2) ⟨0, H, rfl, hH⟩ ?_
    rintro kf l' s375 ⟨x300, H, hl, hH⟩ K375 hK375
    generalize getL l' 2 = j2, getL l' 3 = j3, getL l' 4 = j4, getL l' 5 = j5, getL l' 9 = j9, getL l' 10 = j10, getL l' 11 = j11, getL l' 12 = j12, getL l' 13 = j13, getL l' 14 = j14, getL l' 15 = j15, getL l' 16 = j16, getL l' 17 = j17, getL l' 18 = j18, getL l' 19 = j19, getL l' 20 = j20, getL l' 21 = j21, getL l' 22 = j22, getL l' 23 = j23, getL l' 24 = j24, getL l' 25 = j25, getL l' 26 = j26, getL l' 27 = j27, getL l' 28 = j28, getL l' 29 = j29, getL l' 30 = j30, getL l' 31 = j31, getL l' 32 = j32, getL l' 33 = j33, getL l' 34 = j34, getL l' 35 = j35, getL l' 36 = j36, getL l' 37 = j37, getL l' 38 = j38, getL l' 39 = j39 at hl
    subst hl
    cases kf with
    | zero => simp [impl_GoodSet.l1] at H
    | succ kf =>
      rw [impl_GoodSet.l1] at H
      refine HT_seq_k ?_
      intro K376 hK376
      refine HT_region ?_
      refine HL_cons rfl ?_
      refine o_bin rfl rfl rfl ?_
      try dsimp only [putL, setL, evL, getL]
      refine HL_nil ?_
      refine hK376 _ _ ?_
      refine HT_seq_k ?_
      intro K377 hK377
      rcases Bool.eq_false_or_eq_true (decide (x300 < (p0.length : Int))) with hb378 | hb378
      · replace H := iteT hb378 H
        refine HT_true (congrArg Value.bool hb378) ?_
        refine HT_skip ?_
        refine hK377 _ _ ?_
        refine HT_seq_k ?_
        intro K414 hK414
        refine HT_block ?_
        refine HT_seq_k ?_
        intro K415 hK415
        refine HT_region ?_
        refine HL_cons rfl ?_
        refine o_move ?_
        try dsimp only [putL, setL, evL, getL]
        replace H := headE H
        obtain ⟨u416, hu416, H⟩ := H
        obtain ⟨b416, o416, cs416, hr416, hh416, hel416⟩ := Rd.elb HRp0 hu416
        obtain rfl := hr416
        refine HL_cons rfl ?_
        refine hel416 s375 rfl rfl Try.underlying24 tI3 ?_
        try dsimp only [putL, setL, evL, getL]
        refine HL_cons rfl ?_
        refine o_load' rfl Try.underlying3 rfl ((hh416 hH.bs.mono) 0 _ rfl) ?_
        try dsimp only [putL, setL, evL, getL]
        refine HL_cons rfl ?_
        refine o_assign ?_
        try dsimp only [putL, setL, evL, getL]
        refine HL_cons rfl ?_
        refine o_assign ?_
        try dsimp only [putL, setL, evL, getL]
        refine HL_nil ?_
        refine hK415 _ _ ?_
        refine HT_seq_k ?_
        intro K417 hK417
        refine HT_region ?_
        refine HL_cons rfl ?_
        refine o_assign ?_
        try dsimp only [putL, setL, evL, getL]
        refine HL_nil ?_
        refine hK417 _ _ ?_
        refine joinH H fun G418 hG418 H => ?_
        refine HT_joinK (fun l' s' => ∃ (x431 : Int), G418 x431 = some r ∧ l' = [.slice A0p p0.length c0p, undef, j2, .int .i64 x300, .int .i64 u416, .int .i64 x431, .slice A0p p0.length c0p, .int .i64 (p0.length : Int), .int .i64 x300, .bool (decide (x300 < (p0.length : Int))), .int .i64 x300, .pointer (some ⟨b416, o416, none⟩), .int .i64 u416, getL l' 13, getL l' 14, getL l' 15, getL l' 16, getL l' 17, getL l' 18, getL l' 19, getL l' 20, getL l' 21, getL l' 22, getL l' 23, getL l' 24, getL l' 25, getL l' 26, getL l' 27, getL l' 28, getL l' 29, getL l' 30, getL l' 31, getL l' 32, getL l' 33, getL l' 34, j35, j36, j37, j38, j39, undef, undef, undef, undef, undef, undef, undef, undef, undef] ∧ Hp sb s F0 s' []) ?_ ?_
        · intro K418 hK418
          refine HT_block ?_
          refine joinH H fun G432 hG432 H => ?_
          refine HT_joinK (fun l' s' => ∃ (x435 : Bool), G432 x435 = some r ∧ l' = [.slice A0p p0.length c0p, undef, j2, .int .i64 x300, .int .i64 u416, .int .i64 0, .slice A0p p0.length c0p, .int .i64 (p0.length : Int), .int .i64 x300, .bool (decide (x300 < (p0.length : Int))), .int .i64 x300, .pointer (some ⟨b416, o416, none⟩), .int .i64 u416, .bool x435, getL l' 14, getL l' 15, getL l' 16, getL l' 17, getL l' 18, getL l' 19, getL l' 20, j21, j22, j23, j24, j25, j26, j27, j28, j29, j30, j31, j32, j33, j34, j35, j36, j37, j38, j39, undef, undef, undef, undef, undef, undef, undef, undef, undef] ∧ Hp sb s F0 s' []) ?_ ?_
          · intro K432 hK432
            refine HT_region ?_
            refine HL_cons rfl ?_
            refine o_move ?_
            try dsimp only [putL, setL, evL, getL]
            refine HL_cons rfl ?_
            refine o_bin rfl rfl rfl ?_
            try dsimp only [putL, setL, evL, getL]
            refine HL_cons rfl ?_
            refine o_move ?_
            try dsimp only [putL, setL, evL, getL]
            rcases Bool.eq_false_or_eq_true (decide (x300 > 0)) with hb436 | hb436
            · replace H := iteT hb436 H
              refine HL_want ?_ ?_
              · exact wantT (j := 2) (b := true) (t := 16) (c := decide (x300 > 0)) rfl rfl rfl rfl hb436
              refine o_move ?_
              try dsimp only [putL, setL, evL, getL]
              replace H := headE H
              obtain ⟨u437, hu437, H⟩ := H
              refine HL_want ?_ ?_
              · exact wantT (j := 2) (b := true) (t := 16) (c := decide (x300 > 0)) rfl rfl rfl rfl hb436
              refine o_rem' rfl rfl hu437 ?_
              try dsimp only [putL, setL, evL, getL]
              refine HL_want ?_ ?_
              · exact wantT (j := 2) (b := true) (t := 16) (c := decide (x300 > 0)) rfl rfl rfl rfl hb436
              refine o_bin rfl rfl rfl ?_
              try dsimp only [putL, setL, evL, getL]
              refine HL_cons rfl ?_
              refine o_pickT rfl hb436 ?_
              try dsimp only [putL, setL, evL, getL]
              refine HL_cons rfl ?_
              refine o_assign ?_
              try dsimp only [putL, setL, evL, getL]
              refine HL_nil ?_
              exact hK432 _ _ ⟨u437 == 0, H, rfl, hH⟩
            · replace H := iteF hb436 H
              refine HL_skip ?_ ?_
              · exact wantF (j := 2) (b := true) (t := 16) (c := decide (x300 > 0)) rfl rfl rfl rfl hb436
              try dsimp only [putL, setL, evL, getL]
              refine HL_skip ?_ ?_
              · exact wantF (j := 2) (b := true) (t := 16) (c := decide (x300 > 0)) rfl rfl rfl rfl hb436
              try dsimp only [putL, setL, evL, getL]
              refine HL_skip ?_ ?_
              · exact wantF (j := 2) (b := true) (t := 16) (c := decide (x300 > 0)) rfl rfl rfl rfl hb436
              try dsimp only [putL, setL, evL, getL]
              refine HL_cons rfl ?_
              refine o_pickF rfl hb436 ?_
              try dsimp only [putL, setL, evL, getL]
              refine HL_cons rfl ?_
              refine o_assign ?_
              try dsimp only [putL, setL, evL, getL]
              refine HL_nil ?_
              exact hK432 _ _ ⟨false, H, rfl, hH⟩
          · rintro l' s438 ⟨x435, H, hl, hH⟩
            generalize getL l' 14 = j14, getL l' 15 = j15, getL l' 16 = j16, getL l' 17 = j17, getL l' 18 = j18, getL l' 19 = j19, getL l' 20 = j20 at hl
            subst hl
            replace H := hG432 _ H
            try dsimp only at H
            rcases Bool.eq_false_or_eq_true x435 with hb439 | hb439
            · replace H := iteT hb439 H
              refine HT_true (congrArg Value.bool hb439) ?_
              refine HT_region ?_
              refine HL_cons rfl ?_
              refine o_move ?_
              try dsimp only [putL, setL, evL, getL]
              refine HL_cons rfl ?_
              refine o_move ?_
              try dsimp only [putL, setL, evL, getL]
              refine HL_cons rfl ?_
              refine o_bin rfl rfl rfl ?_
              try dsimp only [putL, setL, evL, getL]
              replace H := headE H
              obtain ⟨u440, hu440, H⟩ := H
              obtain ⟨b440, o440, cs440, hr440, hh440, hel440⟩ := Rd.elb HRp0 hu440
              obtain rfl := hr440
              refine HL_cons rfl ?_
              refine hel440 s438 rfl rfl Try.underlying24 tI3 ?_
              try dsimp only [putL, setL, evL, getL]
              refine HL_cons rfl ?_
              refine o_load' rfl Try.underlying3 rfl ((hh440 hH.bs.mono) 0 _ rfl) ?_
              try dsimp only [putL, setL, evL, getL]
              refine HL_cons rfl ?_
              refine o_bin rfl rfl rfl ?_
              try dsimp only [putL, setL, evL, getL]
              refine HL_cons rfl ?_
              refine o_assign ?_
              try dsimp only [putL, setL, evL, getL]
              refine HL_nil ?_
              exact hK418 _ _ ⟨IntKind.i64.wrap (u440 + 2), H, rfl, hH⟩
            · replace H := iteF hb439 H
              refine HT_false (congrArg Value.bool hb439) ?_
              refine HT_seq_k ?_
              intro K441 hK441
              refine HT_region ?_
              refine HL_cons rfl ?_
              refine o_move ?_
              try dsimp only [putL, setL, evL, getL]
              refine HL_cons rfl ?_
              refine o_bin rfl rfl rfl ?_
              try dsimp only [putL, setL, evL, getL]
              refine HL_cons rfl ?_
              refine o_assign ?_
              try dsimp only [putL, setL, evL, getL]
              refine HL_nil ?_
              refine hK441 _ _ ?_
              rcases Bool.eq_false_or_eq_true (decide (x300 > 0)) with hb442 | hb442
              · replace H := iteT hb442 H
                refine HT_true (congrArg Value.bool hb442) ?_
                refine HT_region ?_
                refine HL_cons rfl ?_
                refine o_move ?_
                try dsimp only [putL, setL, evL, getL]
                refine HL_cons rfl ?_
                refine o_move ?_
                try dsimp only [putL, setL, evL, getL]
                refine HL_cons rfl ?_
                refine o_bin rfl rfl rfl ?_
                try dsimp only [putL, setL, evL, getL]
                replace H := headE H
                obtain ⟨u443, hu443, H⟩ := H
                obtain ⟨b443, o443, cs443, hr443, hh443, hel443⟩ := Rd.elb HRp0 hu443
                obtain rfl := hr443
                refine HL_cons rfl ?_
                refine hel443 s438 rfl rfl Try.underlying24 tI3 ?_
                try dsimp only [putL, setL, evL, getL]
                refine HL_cons rfl ?_
                refine o_load' rfl Try.underlying3 rfl ((hh443 hH.bs.mono) 0 _ rfl) ?_
                try dsimp only [putL, setL, evL, getL]
                refine HL_cons rfl ?_
                refine o_assign ?_
                try dsimp only [putL, setL, evL, getL]
                refine HL_nil ?_
                exact hK418 _ _ ⟨u443, H, rfl, hH⟩
              · replace H := iteF hb442 H
                refine HT_false (congrArg Value.bool hb442) ?_
                refine HT_skip ?_
                exact hK418 _ _ ⟨0, H, rfl, hH⟩
        · rintro l' s444 ⟨x431, H, hl, hH⟩
          generalize getL l' 13 = j13, getL l' 14 = j14, getL l' 15 = j15, getL l' 16 = j16, getL l' 17 = j17, getL l' 18 = j18, getL l' 19 = j19, getL l' 20 = j20, getL l' 21 = j21, getL l' 22 = j22, getL l' 23 = j23, getL l' 24 = j24, getL l' 25 = j25, getL l' 26 = j26, getL l' 27 = j27, getL l' 28 = j28, getL l' 29 = j29, getL l' 30 = j30, getL l' 31 = j31, getL l' 32 = j32, getL l' 33 = j33, getL l' 34 = j34 at hl
          subst hl
          replace H := hG418 _ H
          try dsimp only at H
          refine HT_seq_k ?_
          intro K445 hK445
          refine HT_region ?_
          refine HL_cons rfl ?_
          refine o_move ?_
          try dsimp only [putL, setL, evL, getL]
          refine HL_cons rfl ?_
          refine o_move ?_
          try dsimp only [putL, setL, evL, getL]
          replace H := headE H
          obtain ⟨u446, hu446, H⟩ := H
          refine HL_cons rfl ?_
          refine o_call (args := #[.int .i64 u416, .int .i64 x431, .int .i64 1114111]) Try.func105 rfl rfl rfl (impl_inRange.ok sb s444 no u416 x431 1114111 (Hp.own hH.bs) _ hu446) ?_
          rintro _ s446 ⟨rfl, hD⟩
          replace hH := hH.back0 hD (Up.refl _ _ _)
          clear hD
          dsimp only [addC, setC, rmC, selC, getC] at hH
          try dsimp only [putL, setL, evL, getL]
          refine HL_cons rfl ?_
          refine o_not rfl ?_
          try dsimp only [putL, setL, evL, getL]
          refine HL_nil ?_
          refine hK445 _ _ ?_
          rcases Bool.eq_false_or_eq_true (!u446) with hb447 | hb447
          · replace H := iteT hb447 H
            refine HT_true (congrArg Value.bool hb447) ?_
            refine HT_seq_k ?_
            intro K448 hK448
            refine HT_region ?_
            refine HL_cons rfl ?_
            refine o_assign ?_
            try dsimp only [putL, setL, evL, getL]
            refine HL_nil ?_
            refine hK448 _ _ ?_
            refine HT_ret ?_
            replace H := escH (fun z hz => hG4 _ hz) H
            exact hQr _ _ [.bool false] ⟨rfl, trivial⟩ (retH (fun r => impl_GoodSet.post sb s F0 r _ _) (show some _ = some r from H) ⟨rfl, hH⟩)
          · replace H := iteF hb447 H
            refine HT_false (congrArg Value.bool hb447) ?_
            refine HT_skip ?_
            refine hK414 _ _ ?_
            refine HT_region ?_
            refine HL_cons rfl ?_
            refine o_bin rfl rfl rfl ?_
            try dsimp only [putL, setL, evL, getL]
            refine HL_cons rfl ?_
            refine o_move ?_
            try dsimp only [putL, setL, evL, getL]
            refine HL_nil ?_
            exact hK375 _ _ ⟨kf, Nat.lt_succ_self kf, IntKind.i64.wrap (x300 + 1), H, rfl, hH⟩
      · replace H := iteF hb378 H
        refine HT_false (congrArg Value.bool hb378) ?_
        refine HT_exit ?_
        exact hK4 _ _ ⟨H, rfl, hH⟩
  · rintro l' s449 ⟨H, hl, hH⟩
    generalize getL l' 2 = j2, getL l' 3 = j3, getL l' 4 = j4, getL l' 5 = j5, getL l' 8 = j8, getL l' 9 = j9, getL l' 10 = j10, getL l' 11 = j11, getL l' 12 = j12, getL l' 13 = j13, getL l' 14 = j14, getL l' 15 = j15, getL l' 16 = j16, getL l' 17 = j17, getL l' 18 = j18, getL l' 19 = j19, getL l' 20 = j20, getL l' 21 = j21, getL l' 22 = j22, getL l' 23 = j23, getL l' 24 = j24, getL l' 25 = j25, getL l' 26 = j26, getL l' 27 = j27, getL l' 28 = j28, getL l' 29 = j29, getL l' 30 = j30, getL l' 31 = j31, getL l' 32 = j32, getL l' 33 = j33, getL l' 34 = j34, getL l' 35 = j35, getL l' 36 = j36, getL l' 37 = j37, getL l' 38 = j38, getL l' 39 = j39 at hl
    subst hl
    replace H := hG4 _ H
    try dsimp only at H
    refine hK2 _ _ ?_
    refine HT_seq_k ?_
    intro K450 hK450
    refine HT_region ?_
    refine HL_cons rfl ?_
    refine o_move ?_
    try dsimp only [putL, setL, evL, getL]
    refine HL_cons rfl ?_
    refine o_len rfl Try.underlying24 ?_
    try dsimp only [putL, setL, evL, getL]
    replace H := headE H
    obtain ⟨u451, hu451, H⟩ := H
    refine HL_cons rfl ?_
    refine o_rem' rfl rfl hu451 ?_
    try dsimp only [putL, setL, evL, getL]
    refine HL_cons rfl ?_
    refine o_bin rfl rfl rfl ?_
    try dsimp only [putL, setL, evL, getL]
    refine HL_cons rfl ?_
    refine o_move ?_
    try dsimp only [putL, setL, evL, getL]
    rcases Bool.eq_false_or_eq_true (u451 == 0) with hb452 | hb452
    · replace H := iteT hb452 H
      refine HL_want ?_ ?_
      · exact wantT (j := 4) (b := true) (t := 44) (c := u451 == 0) rfl rfl rfl rfl hb452
      refine o_move ?_
      try dsimp only [putL, setL, evL, getL]
      refine HL_want ?_ ?_
      · exact wantT (j := 4) (b := true) (t := 44) (c := u451 == 0) rfl rfl rfl rfl hb452
      refine o_len rfl Try.underlying24 ?_
      try dsimp only [putL, setL, evL, getL]
      refine HL_want ?_ ?_
      · exact wantT (j := 4) (b := true) (t := 44) (c := u451 == 0) rfl rfl rfl rfl hb452
      refine o_bin rfl rfl rfl ?_
      try dsimp only [putL, setL, evL, getL]
      refine HL_cons rfl ?_
      refine o_pickT rfl hb452 ?_
      try dsimp only [putL, setL, evL, getL]
      refine HL_cons rfl ?_
      refine o_assign ?_
      try dsimp only [putL, setL, evL, getL]
      refine HL_nil ?_
      refine hK450 _ _ ?_
      refine HT_ret ?_
      exact hQr _ _ [.bool (decide ((p0.length : Int) ≤ 24))] ⟨rfl, trivial⟩ (retH (fun r => impl_GoodSet.post sb s F0 r _ _) (show some _ = some r from H) ⟨rfl, hH⟩)
    · replace H := iteF hb452 H
      refine HL_skip ?_ ?_
      · exact wantF (j := 4) (b := true) (t := 44) (c := u451 == 0) rfl rfl rfl rfl hb452
      try dsimp only [putL, setL, evL, getL]
      refine HL_skip ?_ ?_
      · exact wantF (j := 4) (b := true) (t := 44) (c := u451 == 0) rfl rfl rfl rfl hb452
      try dsimp only [putL, setL, evL, getL]
      refine HL_skip ?_ ?_
      · exact wantF (j := 4) (b := true) (t := 44) (c := u451 == 0) rfl rfl rfl rfl hb452
      try dsimp only [putL, setL, evL, getL]
      refine HL_cons rfl ?_
      refine o_pickF rfl hb452 ?_
      try dsimp only [putL, setL, evL, getL]
      refine HL_cons rfl ?_
      refine o_assign ?_
      try dsimp only [putL, setL, evL, getL]
      refine HL_nil ?_
      refine hK450 _ _ ?_
      refine HT_ret ?_
      exact hQr _ _ [.bool false] ⟨rfl, trivial⟩ (retH (fun r => impl_GoodSet.post sb s F0 r _ _) (show some _ = some r from H) ⟨rfl, hH⟩)
def impl_GoodRune.f (p0 : Int) : Option Bool := (impl_inRange.f p0 0 1114111).bind fun u3 => if u3 = true then ((impl_inRange.f p0 55296 57343).bind fun u5 => some (!u5)) else (some false)
def impl_GoodRune.post (sb s : St) (F0 : Fp) (r : Bool) : Value → St → Prop := fun v s' => v = .bool r ∧ Hp sb s F0 s' []
set_option maxRecDepth 100000 in
set_option maxHeartbeats 4000000 in
theorem impl_GoodRune.ok (sb s : St) (F0 : Fp) (p0 : Int) (hH : Hp sb s F0 s []) (r : Bool) (H : impl_GoodRune.f p0 = some r) : GCall Try.prog 146 #[.int .i64 p0] s (impl_GoodRune.post sb s F0 r) := by
  refine GCall_ofk [.tmp 2] [.int .i64 p0, undef, undef, undef, undef, undef, undef, undef, undef, undef] Try.func146 rfl rfl rfl ?_
  intro w Q hQr hQn hQp
  replace H := topE H
  unfold impl_GoodRune.f at H
  refine HT_seq_k ?_
  intro K1 hK1
  refine HT_region ?_
  refine HL_cons rfl ?_
  refine o_assign ?_
  try dsimp only [putL, setL, evL, getL]
  refine HL_nil ?_
  refine hK1 _ _ ?_
  refine HT_seq_k ?_
  intro K2 hK2
  refine HT_region ?_
  refine HL_cons rfl ?_
  refine o_move ?_
  try dsimp only [putL, setL, evL, getL]
  replace H := headE H
  obtain ⟨u3, hu3, H⟩ := H
  refine HL_cons rfl ?_
  refine o_call (args := #[.int .i64 p0, .int .i64 0, .int .i64 1114111]) Try.func105 rfl rfl rfl (impl_inRange.ok sb s no p0 0 1114111 (Hp.own hH.bs) _ hu3) ?_
  rintro _ s3 ⟨rfl, hD⟩
  replace hH := hH.back0 hD (Up.refl _ _ _)
  clear hD
  dsimp only [addC, setC, rmC, selC, getC] at hH
  try dsimp only [putL, setL, evL, getL]
  refine HL_cons rfl ?_
  refine o_move ?_
  try dsimp only [putL, setL, evL, getL]
  rcases Bool.eq_false_or_eq_true u3 with hb4 | hb4
  · replace H := iteT hb4 H
    refine HL_want ?_ ?_
    · exact wantT (j := 2) (b := true) (t := 5) (c := u3) rfl rfl rfl rfl hb4
    refine o_move ?_
    try dsimp only [putL, setL, evL, getL]
    replace H := headE H
    obtain ⟨u5, hu5, H⟩ := H
    refine HL_want ?_ ?_
    · exact wantT (j := 2) (b := true) (t := 5) (c := u3) rfl rfl rfl rfl hb4
    refine o_call (args := #[.int .i64 p0, .int .i64 55296, .int .i64 57343]) Try.func105 rfl rfl rfl (impl_inRange.ok sb s3 no p0 55296 57343 (Hp.own hH.bs) _ hu5) ?_
    rintro _ s5 ⟨rfl, hD⟩
    replace hH := hH.back0 hD (Up.refl _ _ _)
    clear hD
    dsimp only [addC, setC, rmC, selC, getC] at hH
    try dsimp only [putL, setL, evL, getL]
    refine HL_want ?_ ?_
    · exact wantT (j := 2) (b := true) (t := 5) (c := u3) rfl rfl rfl rfl hb4
    refine o_not rfl ?_
    try dsimp only [putL, setL, evL, getL]
    refine HL_cons rfl ?_
    refine o_pickT rfl hb4 ?_
    try dsimp only [putL, setL, evL, getL]
    refine HL_cons rfl ?_
    refine o_assign ?_
    try dsimp only [putL, setL, evL, getL]
    refine HL_nil ?_
    refine hK2 _ _ ?_
    refine HT_ret ?_
    exact hQr _ _ [.bool (!u5)] ⟨rfl, trivial⟩ (retH (fun r => impl_GoodRune.post sb s F0 r _ _) (show some _ = some r from H) ⟨rfl, hH⟩)
  · replace H := iteF hb4 H
    refine HL_skip ?_ ?_
    · exact wantF (j := 2) (b := true) (t := 5) (c := u3) rfl rfl rfl rfl hb4
    try dsimp only [putL, setL, evL, getL]
    refine HL_skip ?_ ?_
    · exact wantF (j := 2) (b := true) (t := 5) (c := u3) rfl rfl rfl rfl hb4
    try dsimp only [putL, setL, evL, getL]
    refine HL_skip ?_ ?_
    · exact wantF (j := 2) (b := true) (t := 5) (c := u3) rfl rfl rfl rfl hb4
    try dsimp only [putL, setL, evL, getL]
    refine HL_cons rfl ?_
    refine o_pickF rfl hb4 ?_
    try dsimp only [putL, setL, evL, getL]
    refine HL_cons rfl ?_
    refine o_assign ?_
    try dsimp only [putL, setL, evL, getL]
    refine HL_nil ?_
    refine hK2 _ _ ?_
    refine HT_ret ?_
    exact hQr _ _ [.bool false] ⟨rfl, trivial⟩ (retH (fun r => impl_GoodRune.post sb s F0 r _ _) (show some _ = some r from H) ⟨rfl, hH⟩)
def impl_GoodRe_1_1.f (p0 : Int) : Option Bool := (impl_GoodRune.f p0).bind fun u3 => some (!u3)
def impl_GoodRe_1_1.post (sb s : St) (F0 : Fp) (r : Bool) : Value → St → Prop := fun v s' => v = .bool r ∧ Hp sb s F0 s' []
set_option maxRecDepth 100000 in
set_option maxHeartbeats 4000000 in
theorem impl_GoodRe_1_1.ok (sb s : St) (F0 : Fp) (p0 : Int) (hH : Hp sb s F0 s []) (r : Bool) (H : impl_GoodRe_1_1.f p0 = some r) : GCall Try.prog 193 #[.int .i64 p0] s (impl_GoodRe_1_1.post sb s F0 r) := by
  refine GCall_ofk [.tmp 2] [.int .i64 p0, undef, undef, undef, undef, undef] Try.func193 rfl rfl rfl ?_
  intro w Q hQr hQn hQp
  replace H := topE H
  unfold impl_GoodRe_1_1.f at H
  refine HT_seq_k ?_
  intro K1 hK1
  refine HT_region ?_
  refine HL_cons rfl ?_
  refine o_assign ?_
  try dsimp only [putL, setL, evL, getL]
  refine HL_nil ?_
  refine hK1 _ _ ?_
  refine HT_seq_k ?_
  intro K2 hK2
  refine HT_region ?_
  refine HL_cons rfl ?_
  refine o_move ?_
  try dsimp only [putL, setL, evL, getL]
  replace H := headE H
  obtain ⟨u3, hu3, H⟩ := H
  refine HL_cons rfl ?_
  refine o_call (args := #[.int .i64 p0]) Try.func146 rfl rfl rfl (impl_GoodRune.ok sb s no p0 (Hp.own hH.bs) _ hu3) ?_
  rintro _ s3 ⟨rfl, hD⟩
  replace hH := hH.back0 hD (Up.refl _ _ _)
  clear hD
  dsimp only [addC, setC, rmC, selC, getC] at hH
  try dsimp only [putL, setL, evL, getL]
  refine HL_cons rfl ?_
  refine o_not rfl ?_
  try dsimp only [putL, setL, evL, getL]
  refine HL_cons rfl ?_
  refine o_assign ?_
  try dsimp only [putL, setL, evL, getL]
  refine HL_nil ?_
  refine hK2 _ _ ?_
  refine HT_ret ?_
  exact hQr _ _ [.bool (!u3)] ⟨rfl, trivial⟩ (retH (fun r => impl_GoodRe_1_1.post sb s F0 r _ _) (show some _ = some r from H) ⟨rfl, hH⟩)
def slices_IndexFunc_int_int_impl_GoodRe_1_1.l1 (p0 : List (Int)) : Nat → Int → Option (Lo Unit Int)
  | 0, _ => none
  | kf + 1, x48 => if (decide (x48 < (p0.length : Int))) = true then ((rd? p0 x48).bind fun u67 => (impl_GoodRe_1_1.f u67).bind fun u68 => if u68 = true then ((some x48).bind fun z => some (Lo.ret z)) else (slices_IndexFunc_int_int_impl_GoodRe_1_1.l1 p0 kf (IntKind.i64.wrap (x48 + 1)))) else (some (Lo.go ()))
def slices_IndexFunc_int_int_impl_GoodRe_1_1.f (p0 : List (Int)) : Option Int := (slices_IndexFunc_int_int_impl_GoodRe_1_1.l1 p0 ((((p0.length : Int)) - (0)).toNat + 2) 0).bind fun (o : Lo Unit Int) => match o with | .go () => (some (-1)) | .ret z => some z
def slices_IndexFunc_int_int_impl_GoodRe_1_1.post (sb s : St) (F0 : Fp) (r : Int) : Value → St → Prop := fun v s' => v = .int .i64 r ∧ Hp sb s F0 s' []
set_option maxRecDepth 100000 in
set_option maxHeartbeats 4000000 in
theorem slices_IndexFunc_int_int_impl_GoodRe_1_1.ok (sb s : St) (F0 : Fp) (A0p : Option Addr) (c0p : Nat) (p0 : List (Int)) (HRp0 : Rd KI sb A0p c0p p0) (hH : Hp sb s F0 s []) (r : Int) (H : slices_IndexFunc_int_int_impl_GoodRe_1_1.f p0 = some r) : GCall Try.prog 184 #[.slice A0p p0.length c0p, .func (.func 193) #[] #[]] s (slices_IndexFunc_int_int_impl_GoodRe_1_1.post sb s F0 r) := by
  refine GCall_ofk [.tmp 4] [.slice A0p p0.length c0p, .func (.func 193) #[] #[], undef, undef, undef, undef, undef, undef, undef, undef, undef, undef, undef, undef, undef, undef, undef, undef, undef] Try.func184 rfl rfl rfl ?_
  intro w Q hQr hQn hQp
  replace H := topE H
  unfold slices_IndexFunc_int_int_impl_GoodRe_1_1.f at H
  refine HT_seq_k ?_
  intro K1 hK1
  refine HT_region ?_
  refine HL_cons rfl ?_
  refine o_assign ?_
  try dsimp only [putL, setL, evL, getL]
  refine HL_nil ?_
  refine hK1 _ _ ?_
  refine HT_seq_k ?_
  intro K2 hK2
  refine HT_seq_k ?_
  intro K3 hK3
  refine HT_region ?_
  refine HL_cons rfl ?_
  refine o_move ?_
  try dsimp only [putL, setL, evL, getL]
  refine HL_cons rfl ?_
  refine o_len rfl Try.underlying24 ?_
  try dsimp only [putL, setL, evL, getL]
  refine HL_cons rfl ?_
  refine o_move ?_
  try dsimp only [putL, setL, evL, getL]
  refine HL_nil ?_
  refine hK3 _ _ ?_
  refine joinH H fun G4 hG4 H => ?_
  refine HT_toK (fun l' s' => G4 (.go ()) = some r ∧ l' = [.slice A0p p0.length c0p, .func (.func 193) #[] #[], undef, undef, getL l' 4, getL l' 5, .slice A0p p0.length c0p, .int .i64 (p0.length : Int), getL l' 8, getL l' 9, getL l' 10, getL l' 11, getL l' 12, getL l' 13, getL l' 14, getL l' 15, getL l' 16, getL l' 17, getL l' 18] ∧ Hp sb s F0 s' []) ?_ ?_
  · intro K4 hK4
    refine HT_block ?_
    refine HT_loopK (fun kf l' s' => ∃ (x48 : Int), (slices_IndexFunc_int_int_impl_GoodRe_1_1.l1 p0 kf x48).bind G4 = some r ∧ l' = [.slice A0p p0.length c0p, .func (.func 193) #[] #[], undef, undef, getL l' 4, getL l' 5, .slice A0p p0.length c0p, .int .i64 (p0.length : Int), .int .i64 x48, getL l' 9, getL l' 10, getL l' 11, getL l' 12, getL l' 13, getL l' 14, getL l' 15, getL l' 16, getL l' 17, getL l' 18] ∧ Hp sb s F0 s' []) ((((p0.length : Int)) - (0)).toNat + 2) ⟨0, H, rfl, hH⟩ ?_
    rintro kf l' s60 ⟨x48, H, hl, hH⟩ K60 hK60
    generalize getL l' 4 = j4, getL l' 5 = j5, getL l' 9 = j9, getL l' 10 = j10, getL l' 11 = j11, getL l' 12 = j12, getL l' 13 = j13, getL l' 14 = j14, getL l' 15 = j15, getL l' 16 = j16, getL l' 17 = j17, getL l' 18 = j18 at hl
    subst hl
    cases kf with
    | zero => simp [slices_IndexFunc_int_int_impl_GoodRe_1_1.l1] at H
    | succ kf =>
      rw [slices_IndexFunc_int_int_impl_GoodRe_1_1.l1] at H
      refine HT_seq_k ?_
      intro K61 hK61
      refine HT_region ?_
      refine HL_cons rfl ?_
      refine o_bin rfl rfl rfl ?_
      try dsimp only [putL, setL, evL, getL]
      refine HL_nil ?_
      refine hK61 _ _ ?_
      refine HT_seq_k ?_
      intro K62 hK62
      rcases Bool.eq_false_or_eq_true (decide (x48 < (p0.length : Int))) with hb63 | hb63
      · replace H := iteT hb63 H
        refine HT_true (congrArg Value.bool hb63) ?_
        refine HT_skip ?_
        refine hK62 _ _ ?_
        refine HT_seq_k ?_
        intro K64 hK64
        refine HT_block ?_
        refine HT_seq_k ?_
        intro K65 hK65
        refine HT_region ?_
        refine HL_cons rfl ?_
        refine o_move ?_
        try dsimp only [putL, setL, evL, getL]
        refine HL_cons rfl ?_
        refine o_assign ?_
        try dsimp only [putL, setL, evL, getL]
        refine HL_nil ?_
        refine hK65 _ _ ?_
        refine HT_seq_k ?_
        intro K66 hK66
        refine HT_region ?_
        refine HL_cons rfl ?_
        refine o_move ?_
        try dsimp only [putL, setL, evL, getL]
        refine HL_cons rfl ?_
        refine o_move ?_
        try dsimp only [putL, setL, evL, getL]
        refine HL_cons rfl ?_
        refine o_move ?_
        try dsimp only [putL, setL, evL, getL]
        replace H := headE H
        obtain ⟨u67, hu67, H⟩ := H
        obtain ⟨b67, o67, cs67, hr67, hh67, hel67⟩ := Rd.elb HRp0 hu67
        obtain rfl := hr67
        refine HL_cons rfl ?_
        refine hel67 s60 rfl rfl Try.underlying24 tI3 ?_
        try dsimp only [putL, setL, evL, getL]
        refine HL_cons rfl ?_
        refine o_load' rfl Try.underlying3 rfl ((hh67 hH.bs.mono) 0 _ rfl) ?_
        try dsimp only [putL, setL, evL, getL]
        replace H := headE H
        obtain ⟨u68, hu68, H⟩ := H
        refine HL_cons rfl ?_
        refine o_callv (first := #[]) (cap := #[]) (args := #[.int .i64 u67]) rfl Try.func193 rfl rfl [.int .i64 u67] rfl (by simp) (impl_GoodRe_1_1.ok sb s60 no u67 (Hp.own hH.bs) _ hu68) ?_
        rintro _ s68 ⟨rfl, hD⟩
        replace hH := hH.back0 hD (Up.refl _ _ _)
        clear hD
        dsimp only [addC, setC, rmC, selC, getC] at hH
        try dsimp only [putL, setL, evL, getL]
        refine HL_nil ?_
        refine hK66 _ _ ?_
        rcases Bool.eq_false_or_eq_true u68 with hb69 | hb69
        · replace H := iteT hb69 H
          refine HT_true (congrArg Value.bool hb69) ?_
          refine HT_seq_k ?_
          intro K70 hK70
          refine HT_region ?_
          refine HL_cons rfl ?_
          refine o_move ?_
          try dsimp only [putL, setL, evL, getL]
          refine HL_cons rfl ?_
          refine o_assign ?_
          try dsimp only [putL, setL, evL, getL]
          refine HL_nil ?_
          refine hK70 _ _ ?_
          refine HT_ret ?_
          replace H := escH (fun z hz => hG4 _ hz) H
          exact hQr _ _ [.int .i64 x48] ⟨rfl, trivial⟩ (retH (fun r => slices_IndexFunc_int_int_impl_GoodRe_1_1.post sb s F0 r _ _) (show some _ = some r from H) ⟨rfl, hH⟩)
        · replace H := iteF hb69 H
          refine HT_false (congrArg Value.bool hb69) ?_
          refine HT_skip ?_
          refine hK64 _ _ ?_
          refine HT_region ?_
          refine HL_cons rfl ?_
          refine o_bin rfl rfl rfl ?_
          try dsimp only [putL, setL, evL, getL]
          refine HL_cons rfl ?_
          refine o_move ?_
          try dsimp only [putL, setL, evL, getL]
          refine HL_nil ?_
          exact hK60 _ _ ⟨kf, Nat.lt_succ_self kf, IntKind.i64.wrap (x48 + 1), H, rfl, hH⟩
      · replace H := iteF hb63 H
        refine HT_false (congrArg Value.bool hb63) ?_
        refine HT_exit ?_
        exact hK4 _ _ ⟨H, rfl, hH⟩
  · rintro l' s71 ⟨H, hl, hH⟩
    generalize getL l' 4 = j4, getL l' 5 = j5, getL l' 8 = j8, getL l' 9 = j9, getL l' 10 = j10, getL l' 11 = j11, getL l' 12 = j12, getL l' 13 = j13, getL l' 14 = j14, getL l' 15 = j15, getL l' 16 = j16, getL l' 17 = j17, getL l' 18 = j18 at hl
    subst hl
    replace H := hG4 _ H
    try dsimp only at H
    refine hK2 _ _ ?_
    refine HT_seq_k ?_
    intro K72 hK72
    refine HT_region ?_
    refine HL_cons rfl ?_
    refine o_assign ?_
    try dsimp only [putL, setL, evL, getL]
    refine HL_nil ?_
    refine hK72 _ _ ?_
    refine HT_ret ?_
    exact hQr _ _ [.int .i64 (-1)] ⟨rfl, trivial⟩ (retH (fun r => slices_IndexFunc_int_int_impl_GoodRe_1_1.post sb s F0 r _ _) (show some _ = some r from H) ⟨rfl, hH⟩)
def slices_ContainsFunc_int_int_impl_GoodRe_1_1.f (p0 : List (Int)) : Option Bool := (slices_IndexFunc_int_int_impl_GoodRe_1_1.f p0).bind fun u3 => some (decide (u3 ≥ 0))
def slices_ContainsFunc_int_int_impl_GoodRe_1_1.post (sb s : St) (F0 : Fp) (r : Bool) : Value → St → Prop := fun v s' => v = .bool r ∧ Hp sb s F0 s' []
set_option maxRecDepth 100000 in
set_option maxHeartbeats 4000000 in
theorem slices_ContainsFunc_int_int_impl_GoodRe_1_1.ok (sb s : St) (F0 : Fp) (A0p : Option Addr) (c0p : Nat) (p0 : List (Int)) (HRp0 : Rd KI sb A0p c0p p0) (hH : Hp sb s F0 s []) (r : Bool) (H : slices_ContainsFunc_int_int_impl_GoodRe_1_1.f p0 = some r) : GCall Try.prog 114 #[.slice A0p p0.length c0p, .func (.func 193) #[] #[]] s (slices_ContainsFunc_int_int_impl_GoodRe_1_1.post sb s F0 r) := by
  refine GCall_ofk [.tmp 4] [.slice A0p p0.length c0p, .func (.func 193) #[] #[], undef, undef, undef, undef, undef, undef, undef] Try.func114 rfl rfl rfl ?_
  intro w Q hQr hQn hQp
  replace H := topE H
  unfold slices_ContainsFunc_int_int_impl_GoodRe_1_1.f at H
  refine HT_seq_k ?_
  intro K1 hK1
  refine HT_region ?_
  refine HL_cons rfl ?_
  refine o_assign ?_
  try dsimp only [putL, setL, evL, getL]
  refine HL_nil ?_
  refine hK1 _ _ ?_
  refine HT_seq_k ?_
  intro K2 hK2
  refine HT_region ?_
  refine HL_cons rfl ?_
  refine o_move ?_
  try dsimp only [putL, setL, evL, getL]
  refine HL_cons rfl ?_
  refine o_move ?_
  try dsimp only [putL, setL, evL, getL]
  replace H := headE H
  obtain ⟨u3, hu3, H⟩ := H
  refine HL_cons rfl ?_
  refine o_call (args := #[.slice A0p p0.length c0p, .func (.func 193) #[] #[]]) Try.func184 rfl rfl rfl (slices_IndexFunc_int_int_impl_GoodRe_1_1.ok sb s no A0p c0p p0 HRp0 (Hp.own hH.bs) _ hu3) ?_
  rintro _ s3 ⟨rfl, hD⟩
  replace hH := hH.back0 hD (Up.refl _ _ _)
  clear hD
  dsimp only [addC, setC, rmC, selC, getC] at hH
  try dsimp only [putL, setL, evL, getL]
  refine HL_cons rfl ?_
  refine o_bin rfl rfl rfl ?_
  try dsimp only [putL, setL, evL, getL]
  refine HL_cons rfl ?_
  refine o_assign ?_
  try dsimp only [putL, setL, evL, getL]
  refine HL_nil ?_
  refine hK2 _ _ ?_
  refine HT_ret ?_
  exact hQr _ _ [.bool (decide (u3 ≥ 0))] ⟨rfl, trivial⟩ (retH (fun r => slices_ContainsFunc_int_int_impl_GoodRe_1_1.post sb s F0 r _ _) (show some _ = some r from H) ⟨rfl, hH⟩)
def impl_GoodRe_1.f (p0_0 : Int) (p0_1 : List (Int)) : Option Bool := (impl_GoodSet.f p0_1).bind fun u4 => if (!u4) = true then (some true) else ((slices_ContainsFunc_int_int_impl_GoodRe_1_1.f p0_1).bind fun u6 => if u6 = true then (some true) else (if (p0_0 != 2) = true then (some (decide ((p0_1.length : Int) > 0))) else (some false)))
def impl_GoodRe_1.post (sb s : St) (F0 : Fp) (r : Bool) : Value → St → Prop := fun v s' => v = .bool r ∧ Hp sb s F0 s' []
set_option maxRecDepth 100000 in
set_option maxHeartbeats 4000000 in
theorem impl_GoodRe_1.ok (sb s : St) (F0 : Fp) (p0_0 : Int) (A0_1p : Option Addr) (c0_1p : Nat) (p0_1 : List (Int)) (HRp0_1 : Rd KI sb A0_1p c0_1p p0_1) (hH : Hp sb s F0 s []) (r : Bool) (H : impl_GoodRe_1.f p0_0 p0_1 = some r) : GCall Try.prog 191 #[.agg #[.int .i64 p0_0, .slice A0_1p p0_1.length c0_1p]] s (impl_GoodRe_1.post sb s F0 r) := by
  refine GCall_ofk [.tmp 2] [.agg #[.int .i64 p0_0, .slice A0_1p p0_1.length c0_1p], undef, undef, undef, undef, undef, undef, undef, undef, undef, undef, undef, undef, undef, undef, undef, undef, undef, undef, undef, undef, undef, undef] Try.func191 rfl rfl rfl ?_
  intro w Q hQr hQn hQp
  replace H := topE H
  unfold impl_GoodRe_1.f at H
  refine HT_seq_k ?_
  intro K1 hK1
  refine HT_region ?_
  refine HL_cons rfl ?_
  refine o_boxH hH rfl ?_
  intro b2 s2 hH' hG
  replace hH : Hp sb s F0 s2 [Ck.ov b2 [.int .i64 p0_0, .slice A0_1p p0_1.length c0_1p] 139] := hH'
  clear hH' hG
  try dsimp only [putL, setL, evL, getL]
  refine HL_cons rfl ?_
  refine o_assign ?_
  try dsimp only [putL, setL, evL, getL]
  refine HL_nil ?_
  refine hK1 _ _ ?_
  refine HT_seq_k ?_
  intro K3 hK3
  refine HT_region ?_
  refine HL_cons rfl ?_
  refine o_faddr' (ft := 24) (off := 1) rfl Try.underlying139 rfl tI24 (by decide) ?_
  try dsimp only [putL, setL, evL, getL]
  refine HL_cons rfl ?_
  refine o_load' rfl Try.underlying24 rfl (hH.hasv 0 rfl rfl) ?_
  try dsimp only [putL, setL, evL, getL]
  replace H := headE H
  obtain ⟨u4, hu4, H⟩ := H
  refine HL_cons rfl ?_
  refine o_call (args := #[.slice A0_1p p0_1.length c0_1p]) Try.func192 rfl rfl rfl (impl_GoodSet.ok sb s2 no A0_1p c0_1p p0_1 HRp0_1 (Hp.own hH.bs) _ hu4) ?_
  rintro _ s4 ⟨rfl, hD⟩
  replace hH := hH.back0 hD (Up.refl _ _ _)
  clear hD
  dsimp only [addC, setC, rmC, selC, getC] at hH
  try dsimp only [putL, setL, evL, getL]
  refine HL_cons rfl ?_
  refine o_not rfl ?_
  try dsimp only [putL, setL, evL, getL]
  refine HL_cons rfl ?_
  refine o_move ?_
  try dsimp only [putL, setL, evL, getL]
  rcases Bool.eq_false_or_eq_true (!u4) with hb5 | hb5
  · replace H := iteT hb5 H
    refine HL_skip ?_ ?_
    · exact wantF (j := 4) (b := false) (t := 7) (c := !u4) rfl rfl rfl rfl hb5
    try dsimp only [putL, setL, evL, getL]
    refine HL_skip ?_ ?_
    · exact wantF (j := 4) (b := false) (t := 7) (c := !u4) rfl rfl rfl rfl hb5
    try dsimp only [putL, setL, evL, getL]
    refine HL_skip ?_ ?_
    · exact wantF (j := 4) (b := false) (t := 7) (c := !u4) rfl rfl rfl rfl hb5
    try dsimp only [putL, setL, evL, getL]
    refine HL_cons rfl ?_
    refine o_pickT rfl hb5 ?_
    try dsimp only [putL, setL, evL, getL]
    refine HL_cons rfl ?_
    refine o_move ?_
    try dsimp only [putL, setL, evL, getL]
    refine HL_skip ?_ ?_
    · exact wantF (j := 9) (b := false) (t := 12) (c := true) rfl rfl rfl rfl rfl
    try dsimp only [putL, setL, evL, getL]
    refine HL_skip ?_ ?_
    · exact wantF (j := 9) (b := false) (t := 12) (c := true) rfl rfl rfl rfl rfl
    try dsimp only [putL, setL, evL, getL]
    refine HL_skip ?_ ?_
    · exact wantF (j := 9) (b := false) (t := 12) (c := true) rfl rfl rfl rfl rfl
    try dsimp only [putL, setL, evL, getL]
    refine HL_skip ?_ ?_
    · exact wantF (j := 9) (b := false) (t := 12) (c := true) rfl rfl rfl rfl rfl
    try dsimp only [putL, setL, evL, getL]
    refine HL_skip ?_ ?_
    · exact wantU (j := 13) (b := true) (t := 16) rfl rfl rfl rfl
    try dsimp only [putL, setL, evL, getL]
    refine HL_skip ?_ ?_
    · exact wantU (j := 13) (b := true) (t := 16) rfl rfl rfl rfl
    try dsimp only [putL, setL, evL, getL]
    refine HL_skip ?_ ?_
    · exact wantU (j := 13) (b := true) (t := 16) rfl rfl rfl rfl
    try dsimp only [putL, setL, evL, getL]
    refine HL_skip ?_ ?_
    · exact wantU (j := 13) (b := true) (t := 16) rfl rfl rfl rfl
    try dsimp only [putL, setL, evL, getL]
    refine HL_skip ?_ ?_
    · exact wantF (j := 9) (b := false) (t := 12) (c := true) rfl rfl rfl rfl rfl
    try dsimp only [putL, setL, evL, getL]
    refine HL_cons rfl ?_
    refine o_pickT rfl rfl ?_
    try dsimp only [putL, setL, evL, getL]
    refine HL_cons rfl ?_
    refine o_assign ?_
    try dsimp only [putL, setL, evL, getL]
    refine HL_nil ?_
    refine hK3 _ _ ?_
    refine HT_ret ?_
    exact hQr _ _ [.bool true] ⟨rfl, trivial⟩ (retH (fun r => impl_GoodRe_1.post sb s F0 r _ _) (show some _ = some r from H) ⟨rfl, hH.sel [] (by decide)⟩)
  · replace H := iteF hb5 H
    refine HL_want ?_ ?_
    · exact wantT (j := 4) (b := false) (t := 7) (c := !u4) rfl rfl rfl rfl hb5
    refine o_faddr' (ft := 24) (off := 1) rfl Try.underlying139 rfl tI24 (by decide) ?_
    try dsimp only [putL, setL, evL, getL]
    refine HL_want ?_ ?_
    · exact wantT (j := 4) (b := false) (t := 7) (c := !u4) rfl rfl rfl rfl hb5
    refine o_load' rfl Try.underlying24 rfl (hH.hasv 0 rfl rfl) ?_
    try dsimp only [putL, setL, evL, getL]
    replace H := headE H
    obtain ⟨u6, hu6, H⟩ := H
    refine HL_want ?_ ?_
    · exact wantT (j := 4) (b := false) (t := 7) (c := !u4) rfl rfl rfl rfl hb5
    refine o_call (args := #[.slice A0_1p p0_1.length c0_1p, .func (.func 193) #[] #[]]) Try.func114 rfl rfl rfl (slices_ContainsFunc_int_int_impl_GoodRe_1_1.ok sb s4 no A0_1p c0_1p p0_1 HRp0_1 (Hp.own hH.bs) _ hu6) ?_
    rintro _ s6 ⟨rfl, hD⟩
    replace hH := hH.back0 hD (Up.refl _ _ _)
    clear hD
    dsimp only [addC, setC, rmC, selC, getC] at hH
    try dsimp only [putL, setL, evL, getL]
    refine HL_cons rfl ?_
    refine o_pickF rfl hb5 ?_
    try dsimp only [putL, setL, evL, getL]
    refine HL_cons rfl ?_
    refine o_move ?_
    try dsimp only [putL, setL, evL, getL]
    rcases Bool.eq_false_or_eq_true u6 with hb7 | hb7
    · replace H := iteT hb7 H
      refine HL_skip ?_ ?_
      · exact wantF (j := 9) (b := false) (t := 12) (c := u6) rfl rfl rfl rfl hb7
      try dsimp only [putL, setL, evL, getL]
      refine HL_skip ?_ ?_
      · exact wantF (j := 9) (b := false) (t := 12) (c := u6) rfl rfl rfl rfl hb7
      try dsimp only [putL, setL, evL, getL]
      refine HL_skip ?_ ?_
      · exact wantF (j := 9) (b := false) (t := 12) (c := u6) rfl rfl rfl rfl hb7
      try dsimp only [putL, setL, evL, getL]
      refine HL_skip ?_ ?_
      · exact wantF (j := 9) (b := false) (t := 12) (c := u6) rfl rfl rfl rfl hb7
      try dsimp only [putL, setL, evL, getL]
      refine HL_skip ?_ ?_
      · exact wantU (j := 13) (b := true) (t := 16) rfl rfl rfl rfl
      try dsimp only [putL, setL, evL, getL]
      refine HL_skip ?_ ?_
      · exact wantU (j := 13) (b := true) (t := 16) rfl rfl rfl rfl
      try dsimp only [putL, setL, evL, getL]
      refine HL_skip ?_ ?_
      · exact wantU (j := 13) (b := true) (t := 16) rfl rfl rfl rfl
      try dsimp only [putL, setL, evL, getL]
      refine HL_skip ?_ ?_
      · exact wantU (j := 13) (b := true) (t := 16) rfl rfl rfl rfl
      try dsimp only [putL, setL, evL, getL]
      refine HL_skip ?_ ?_
      · exact wantF (j := 9) (b := false) (t := 12) (c := u6) rfl rfl rfl rfl hb7
      try dsimp only [putL, setL, evL, getL]
      refine HL_cons rfl ?_
      refine o_pickT rfl hb7 ?_
      try dsimp only [putL, setL, evL, getL]
      refine HL_cons rfl ?_
      refine o_assign ?_
      try dsimp only [putL, setL, evL, getL]
      refine HL_nil ?_
      refine hK3 _ _ ?_
      refine HT_ret ?_
      exact hQr _ _ [.bool true] ⟨rfl, trivial⟩ (retH (fun r => impl_GoodRe_1.post sb s F0 r _ _) (show some _ = some r from H) ⟨rfl, hH.sel [] (by decide)⟩)
    · replace H := iteF hb7 H
      refine HL_want ?_ ?_
      · exact wantT (j := 9) (b := false) (t := 12) (c := u6) rfl rfl rfl rfl hb7
      refine o_faddr' (ft := 3) (off := 0) rfl Try.underlying139 rfl tI3 (by decide) ?_
      try dsimp only [putL, setL, evL, getL]
      refine HL_want ?_ ?_
      · exact wantT (j := 9) (b := false) (t := 12) (c := u6) rfl rfl rfl rfl hb7
      refine o_load' rfl Try.underlying3 rfl (hH.hasv 0 rfl rfl) ?_
      try dsimp only [putL, setL, evL, getL]
      refine HL_want ?_ ?_
      · exact wantT (j := 9) (b := false) (t := 12) (c := u6) rfl rfl rfl rfl hb7
      refine o_bin rfl rfl rfl ?_
      try dsimp only [putL, setL, evL, getL]
      refine HL_want ?_ ?_
      · exact wantT (j := 9) (b := false) (t := 12) (c := u6) rfl rfl rfl rfl hb7
      refine o_move ?_
      try dsimp only [putL, setL, evL, getL]
      rcases Bool.eq_false_or_eq_true (p0_0 != 2) with hb8 | hb8
      · replace H := iteT hb8 H
        refine HL_want ?_ ?_
        · exact wantT (j := 13) (b := true) (t := 16) (c := p0_0 != 2) rfl rfl rfl rfl hb8
        refine o_faddr' (ft := 24) (off := 1) rfl Try.underlying139 rfl tI24 (by decide) ?_
        try dsimp only [putL, setL, evL, getL]
        refine HL_want ?_ ?_
        · exact wantT (j := 13) (b := true) (t := 16) (c := p0_0 != 2) rfl rfl rfl rfl hb8
        refine o_load' rfl Try.underlying24 rfl (hH.hasv 0 rfl rfl) ?_
        try dsimp only [putL, setL, evL, getL]
        refine HL_want ?_ ?_
        · exact wantT (j := 13) (b := true) (t := 16) (c := p0_0 != 2) rfl rfl rfl rfl hb8
        refine o_len rfl Try.underlying24 ?_
        try dsimp only [putL, setL, evL, getL]
        refine HL_want ?_ ?_
        · exact wantT (j := 13) (b := true) (t := 16) (c := p0_0 != 2) rfl rfl rfl rfl hb8
        refine o_bin rfl rfl rfl ?_
        try dsimp only [putL, setL, evL, getL]
        refine HL_want ?_ ?_
        · exact wantT (j := 9) (b := false) (t := 12) (c := u6) rfl rfl rfl rfl hb7
        refine o_pickT rfl hb8 ?_
        try dsimp only [putL, setL, evL, getL]
        refine HL_cons rfl ?_
        refine o_pickF rfl hb7 ?_
        try dsimp only [putL, setL, evL, getL]
        refine HL_cons rfl ?_
        refine o_assign ?_
        try dsimp only [putL, setL, evL, getL]
        refine HL_nil ?_
        refine hK3 _ _ ?_
        refine HT_ret ?_
        exact hQr _ _ [.bool (decide ((p0_1.length : Int) > 0))] ⟨rfl, trivial⟩ (retH (fun r => impl_GoodRe_1.post sb s F0 r _ _) (show some _ = some r from H) ⟨rfl, hH.sel [] (by decide)⟩)
      · replace H := iteF hb8 H
        refine HL_skip ?_ ?_
        · exact wantF (j := 13) (b := true) (t := 16) (c := p0_0 != 2) rfl rfl rfl rfl hb8
        try dsimp only [putL, setL, evL, getL]
        refine HL_skip ?_ ?_
        · exact wantF (j := 13) (b := true) (t := 16) (c := p0_0 != 2) rfl rfl rfl rfl hb8
        try dsimp only [putL, setL, evL, getL]
        refine HL_skip ?_ ?_
        · exact wantF (j := 13) (b := true) (t := 16) (c := p0_0 != 2) rfl rfl rfl rfl hb8
        try dsimp only [putL, setL, evL, getL]
        refine HL_skip ?_ ?_
        · exact wantF (j := 13) (b := true) (t := 16) (c := p0_0 != 2) rfl rfl rfl rfl hb8
        try dsimp only [putL, setL, evL, getL]
        refine HL_want ?_ ?_
        · exact wantT (j := 9) (b := false) (t := 12) (c := u6) rfl rfl rfl rfl hb7
        refine o_pickF rfl hb8 ?_
        try dsimp only [putL, setL, evL, getL]
        refine HL_cons rfl ?_
        refine o_pickF rfl hb7 ?_
        try dsimp only [putL, setL, evL, getL]
        refine HL_cons rfl ?_
        refine o_assign ?_
        try dsimp only [putL, setL, evL, getL]
        refine HL_nil ?_
        refine hK3 _ _ ?_
        refine HT_ret ?_
        exact hQr _ _ [.bool false] ⟨rfl, trivial⟩ (retH (fun r => impl_GoodRe_1.post sb s F0 r _ _) (show some _ = some r from H) ⟨rfl, hH.sel [] (by decide)⟩)
def slices_IndexFunc_impl_Re_impl_Re_impl_GoodRe_1.l1 (p0 : List ((Int) × (List (Int)))) : Nat → Int → Option (Lo Unit Int)
  | 0, _ => none
  | kf + 1, x52 => if (decide (x52 < (p0.length : Int))) = true then ((rd? p0 x52).bind fun u72 => (impl_GoodRe_1.f u72.1 u72.2).bind fun u74 => if u74 = true then ((some x52).bind fun z => some (Lo.ret z)) else (slices_IndexFunc_impl_Re_impl_Re_impl_GoodRe_1.l1 p0 kf (IntKind.i64.wrap (x52 + 1)))) else (some (Lo.go ()))
def slices_IndexFunc_impl_Re_impl_Re_impl_GoodRe_1.f (p0 : List ((Int) × (List (Int)))) : Option Int := (slices_IndexFunc_impl_Re_impl_Re_impl_GoodRe_1.l1 p0 ((((p0.length : Int)) - (0)).toNat + 2) 0).bind fun (o : Lo Unit Int) => match o with | .go () => (some (-1)) | .ret z => some z
def slices_IndexFunc_impl_Re_impl_Re_impl_GoodRe_1.post (sb s : St) (F0 : Fp) (r : Int) : Value → St → Prop := fun v s' => v = .int .i64 r ∧ Hp sb s F0 s' []
set_option maxRecDepth 100000 in
set_option maxHeartbeats 4000000 in
theorem slices_IndexFunc_impl_Re_impl_Re_impl_GoodRe_1.ok (sb s : St) (F0 : Fp) (A0p : Option Addr) (c0p : Nat) (p0 : List ((Int) × (List (Int)))) (HRp0 : Rd KS139 sb A0p c0p p0) (hH : Hp sb s F0 s []) (r : Int) (H : slices_IndexFunc_impl_Re_impl_Re_impl_GoodRe_1.f p0 = some r) : GCall Try.prog 221 #[.slice A0p p0.length c0p, .func (.func 191) #[] #[]] s (slices_IndexFunc_impl_Re_impl_Re_impl_GoodRe_1.post sb s F0 r) := by
  refine GCall_ofk [.tmp 4] [.slice A0p p0.length c0p, .func (.func 191) #[] #[], undef, undef, undef, undef, undef, undef, undef, undef, undef, undef, undef, undef, undef, undef, undef, undef, undef] Try.func221 rfl rfl rfl ?_
  intro w Q hQr hQn hQp
  replace H := topE H
  unfold slices_IndexFunc_impl_Re_impl_Re_impl_GoodRe_1.f at H
  refine HT_seq_k ?_
  intro K1 hK1
  refine HT_region ?_
  refine HL_cons rfl ?_
  refine o_assign ?_
  try dsimp only [putL, setL, evL, getL]
  refine HL_nil ?_
  refine hK1 _ _ ?_
  refine HT_seq_k ?_
  intro K2 hK2
  refine HT_seq_k ?_
  intro K3 hK3
  refine HT_region ?_
  refine HL_cons rfl ?_
  refine o_move ?_
  try dsimp only [putL, setL, evL, getL]
  refine HL_cons rfl ?_
  refine o_len rfl Try.underlying57 ?_
  try dsimp only [putL, setL, evL, getL]
  refine HL_cons rfl ?_
  refine o_move ?_
  try dsimp only [putL, setL, evL, getL]
  refine HL_nil ?_
  refine hK3 _ _ ?_
  refine joinH H fun G4 hG4 H => ?_
  refine HT_toK (fun l' s' => G4 (.go ()) = some r ∧ l' = [.slice A0p p0.length c0p, .func (.func 191) #[] #[], undef, undef, getL l' 4, getL l' 5, .slice A0p p0.length c0p, .int .i64 (p0.length : Int), getL l' 8, getL l' 9, getL l' 10, getL l' 11, getL l' 12, getL l' 13, getL l' 14, getL l' 15, getL l' 16, getL l' 17, getL l' 18] ∧ Hp sb s F0 s' []) ?_ ?_
  · intro K4 hK4
    refine HT_block ?_
    refine HT_loopK (fun kf l' s' => ∃ (x52 : Int), (slices_IndexFunc_impl_Re_impl_Re_impl_GoodRe_1.l1 p0 kf x52).bind G4 = some r ∧ l' = [.slice A0p p0.length c0p, .func (.func 191) #[] #[], undef, undef, getL l' 4, getL l' 5, .slice A0p p0.length c0p, .int .i64 (p0.length : Int), .int .i64 x52, getL l' 9, getL l' 10, getL l' 11, getL l' 12, getL l' 13, getL l' 14, getL l' 15, getL l' 16, getL l' 17, getL l' 18] ∧ Hp sb s F0 s' []) ((((p0.length : Int)) - (0)).toNat + 2) ⟨0, H, rfl, hH⟩ ?_
    rintro kf l' s65 ⟨x52, H, hl, hH⟩ K65 hK65
    generalize getL l' 4 = j4, getL l' 5 = j5, getL l' 9 = j9, getL l' 10 = j10, getL l' 11 = j11, getL l' 12 = j12, getL l' 13 = j13, getL l' 14 = j14, getL l' 15 = j15, getL l' 16 = j16, getL l' 17 = j17, getL l' 18 = j18 at hl
    subst hl
    cases kf with
    | zero => simp [slices_IndexFunc_impl_Re_impl_Re_impl_GoodRe_1.l1] at H
    | succ kf =>
      rw [slices_IndexFunc_impl_Re_impl_Re_impl_GoodRe_1.l1] at H
      refine HT_seq_k ?_
      intro K66 hK66
      refine HT_region ?_
      refine HL_cons rfl ?_
      refine o_bin rfl rfl rfl ?_
      try dsimp only [putL, setL, evL, getL]
      refine HL_nil ?_
      refine hK66 _ _ ?_
      refine HT_seq_k ?_
      intro K67 hK67
      rcases Bool.eq_false_or_eq_true (decide (x52 < (p0.length : Int))) with hb68 | hb68
      · replace H := iteT hb68 H
        refine HT_true (congrArg Value.bool hb68) ?_
        refine HT_skip ?_
        refine hK67 _ _ ?_
        refine HT_seq_k ?_
        intro K69 hK69
        refine HT_block ?_
        refine HT_seq_k ?_
        intro K70 hK70
        refine HT_region ?_
        refine HL_cons rfl ?_
        refine o_move ?_
        try dsimp only [putL, setL, evL, getL]
        refine HL_cons rfl ?_
        refine o_assign ?_
        try dsimp only [putL, setL, evL, getL]
        refine HL_nil ?_
        refine hK70 _ _ ?_
        refine HT_seq_k ?_
        intro K71 hK71
        refine HT_region ?_
        refine HL_cons rfl ?_
        refine o_move ?_
        try dsimp only [putL, setL, evL, getL]
        refine HL_cons rfl ?_
        refine o_move ?_
        try dsimp only [putL, setL, evL, getL]
        refine HL_cons rfl ?_
        refine o_move ?_
        try dsimp only [putL, setL, evL, getL]
        replace H := headE H
        obtain ⟨u72, hu72, H⟩ := H
        obtain ⟨b72, o72, cs72, hr72, hh72, hel72⟩ := Rd.elb HRp0 hu72
        obtain ⟨_, _, rfl, rfl, ⟨A73, c73, rfl, D73⟩⟩ := hr72
        refine HL_cons rfl ?_
        refine hel72 s65 rfl rfl Try.underlying57 tI139 ?_
        try dsimp only [putL, setL, evL, getL]
        refine HL_cons rfl ?_
        refine o_loads' [.int .i64 u72.1, .slice A73 u72.2.length c73] rfl Try.underlying139 rfl tI139 rfl (fun j v hj => (hh72 hH.bs.mono) j v hj) ?_
        try dsimp only [putL, setL, evL, getL]
        replace H := headE H
        obtain ⟨u74, hu74, H⟩ := H
        refine HL_cons rfl ?_
        refine o_callv (first := #[]) (cap := #[]) (args := #[.agg #[.int .i64 u72.1, .slice A73 u72.2.length c73]]) rfl Try.func191 rfl rfl [.agg #[.int .i64 u72.1, .slice A73 u72.2.length c73]] rfl (by simp) (impl_GoodRe_1.ok sb s65 no u72.1 A73 c73 u72.2 D73 (Hp.own hH.bs) _ hu74) ?_
        rintro _ s74 ⟨rfl, hD⟩
        replace hH := hH.back0 hD (Up.refl _ _ _)
        clear hD
        dsimp only [addC, setC, rmC, selC, getC] at hH
        try dsimp only [putL, setL, evL, getL]
        refine HL_nil ?_
        refine hK71 _ _ ?_
        rcases Bool.eq_false_or_eq_true u74 with hb75 | hb75
        · replace H := iteT hb75 H
          refine HT_true (congrArg Value.bool hb75) ?_
          refine HT_seq_k ?_
          intro K76 hK76
          refine HT_region ?_
          refine HL_cons rfl ?_
          refine o_move ?_
          try dsimp only [putL, setL, evL, getL]
          refine HL_cons rfl ?_
          refine o_assign ?_
          try dsimp only [putL, setL, evL, getL]
          refine HL_nil ?_
          refine hK76 _ _ ?_
          refine HT_ret ?_
          replace H := escH (fun z hz => hG4 _ hz) H
          exact hQr _ _ [.int .i64 x52] ⟨rfl, trivial⟩ (retH (fun r => slices_IndexFunc_impl_Re_impl_Re_impl_GoodRe_1.post sb s F0 r _ _) (show some _ = some r from H) ⟨rfl, hH⟩)
        · replace H := iteF hb75 H
          refine HT_false (congrArg Value.bool hb75) ?_
          refine HT_skip ?_
          refine hK69 _ _ ?_
          refine HT_region ?_
          refine HL_cons rfl ?_
          refine o_bin rfl rfl rfl ?_
          try dsimp only [putL, setL, evL, getL]
          refine HL_cons rfl ?_
          refine o_move ?_
          try dsimp only [putL, setL, evL, getL]
          refine HL_nil ?_
          exact hK65 _ _ ⟨kf, Nat.lt_succ_self kf, IntKind.i64.wrap (x52 + 1), H, rfl, hH⟩
      · replace H := iteF hb68 H
        refine HT_false (congrArg Value.bool hb68) ?_
        refine HT_exit ?_
        exact hK4 _ _ ⟨H, rfl, hH⟩
  · rintro l' s77 ⟨H, hl, hH⟩
    generalize getL l' 4 = j4, getL l' 5 = j5, getL l' 8 = j8, getL l' 9 = j9, getL l' 10 = j10, getL l' 11 = j11, getL l' 12 = j12, getL l' 13 = j13, getL l' 14 = j14, getL l' 15 = j15, getL l' 16 = j16, getL l' 17 = j17, getL l' 18 = j18 at hl
    subst hl
    replace H := hG4 _ H
    try dsimp only at H
    refine hK2 _ _ ?_
    refine HT_seq_k ?_
    intro K78 hK78
    refine HT_region ?_
    refine HL_cons rfl ?_
    refine o_assign ?_
    try dsimp only [putL, setL, evL, getL]
    refine HL_nil ?_
    refine hK78 _ _ ?_
    refine HT_ret ?_
    exact hQr _ _ [.int .i64 (-1)] ⟨rfl, trivial⟩ (retH (fun r => slices_IndexFunc_impl_Re_impl_Re_impl_GoodRe_1.post sb s F0 r _ _) (show some _ = some r from H) ⟨rfl, hH⟩)
def slices_ContainsFunc_impl_Re_impl_Re_impl_GoodRe_1.f (p0 : List ((Int) × (List (Int)))) : Option Bool := (slices_IndexFunc_impl_Re_impl_Re_impl_GoodRe_1.f p0).bind fun u3 => some (decide (u3 ≥ 0))
def slices_ContainsFunc_impl_Re_impl_Re_impl_GoodRe_1.post (sb s : St) (F0 : Fp) (r : Bool) : Value → St → Prop := fun v s' => v = .bool r ∧ Hp sb s F0 s' []
set_option maxRecDepth 100000 in
set_option maxHeartbeats 4000000 in
theorem slices_ContainsFunc_impl_Re_impl_Re_impl_GoodRe_1.ok (sb s : St) (F0 : Fp) (A0p : Option Addr) (c0p : Nat) (p0 : List ((Int) × (List (Int)))) (HRp0 : Rd KS139 sb A0p c0p p0) (hH : Hp sb s F0 s []) (r : Bool) (H : slices_ContainsFunc_impl_Re_impl_Re_impl_GoodRe_1.f p0 = some r) : GCall Try.prog 190 #[.slice A0p p0.length c0p, .func (.func 191) #[] #[]] s (slices_ContainsFunc_impl_Re_impl_Re_impl_GoodRe_1.post sb s F0 r) := by
  refine GCall_ofk [.tmp 4] [.slice A0p p0.length c0p, .func (.func 191) #[] #[], undef, undef, undef, undef, undef, undef, undef] Try.func190 rfl rfl rfl ?_
  intro w Q hQr hQn hQp
  replace H := topE H
  unfold slices_ContainsFunc_impl_Re_impl_Re_impl_GoodRe_1.f at H
  refine HT_seq_k ?_
  intro K1 hK1
  refine HT_region ?_
  refine HL_cons rfl ?_
  refine o_assign ?_
  try dsimp only [putL, setL, evL, getL]
  refine HL_nil ?_
  refine hK1 _ _ ?_
  refine HT_seq_k ?_
  intro K2 hK2
  refine HT_region ?_
  refine HL_cons rfl ?_
  refine o_move ?_
  try dsimp only [putL, setL, evL, getL]
  refine HL_cons rfl ?_
  refine o_move ?_
  try dsimp only [putL, setL, evL, getL]
  replace H := headE H
  obtain ⟨u3, hu3, H⟩ := H
  refine HL_cons rfl ?_
  refine o_call (args := #[.slice A0p p0.length c0p, .func (.func 191) #[] #[]]) Try.func221 rfl rfl rfl (slices_IndexFunc_impl_Re_impl_Re_impl_GoodRe_1.ok sb s no A0p c0p p0 HRp0 (Hp.own hH.bs) _ hu3) ?_
  rintro _ s3 ⟨rfl, hD⟩
  replace hH := hH.back0 hD (Up.refl _ _ _)
  clear hD
  dsimp only [addC, setC, rmC, selC, getC] at hH
  try dsimp only [putL, setL, evL, getL]
  refine HL_cons rfl ?_
  refine o_bin rfl rfl rfl ?_
  try dsimp only [putL, setL, evL, getL]
  refine HL_cons rfl ?_
  refine o_assign ?_
  try dsimp only [putL, setL, evL, getL]
  refine HL_nil ?_
  refine hK2 _ _ ?_
  refine HT_ret ?_
  exact hQr _ _ [.bool (decide (u3 ≥ 0))] ⟨rfl, trivial⟩ (retH (fun r => slices_ContainsFunc_impl_Re_impl_Re_impl_GoodRe_1.post sb s F0 r _ _) (show some _ = some r from H) ⟨rfl, hH⟩)
def impl_partsOf.f (p0 : Int) : Option Int := (if (p0 == 1) = true then (some (p0 == 1)) else (some (p0 == 2))).bind fun (o : Bool) => match o with | x40 => (if x40 = true then (some 0) else ((if (p0 == 6) = true then (some (p0 == 6)) else (some (p0 == 7))).bind fun (o : Bool) => match o with | x49 => (if x49 = true then (some 1) else ((if (p0 == 3) = true then (some (p0 == 3)) else (if (p0 == 4) = true then (some (p0 == 4)) else (some (p0 == 5)))).bind fun (o : Bool) => match o with | x60 => (if x60 = true then (some 2) else (some (-1)))))))
def impl_partsOf.post (sb s : St) (F0 : Fp) (r : Int) : Value → St → Prop := fun v s' => v = .int .i64 r ∧ Hp sb s F0 s' []
set_option maxRecDepth 100000 in
set_option maxHeartbeats 4000000 in
theorem impl_partsOf.ok (sb s : St) (F0 : Fp) (p0 : Int) (hH : Hp sb s F0 s []) (r : Int) (H : impl_partsOf.f p0 = some r) : GCall Try.prog 203 #[.int .i64 p0] s (impl_partsOf.post sb s F0 r) := by
  refine GCall_ofk [.tmp 2] [.int .i64 p0, undef, undef, undef, undef, undef, undef, undef, undef, undef, undef, undef, undef, undef] Try.func203 rfl rfl rfl ?_
  intro w Q hQr hQn hQp
  replace H := topE H
  unfold impl_partsOf.f at H
  refine HT_seq_k ?_
  intro K1 hK1
  refine HT_region ?_
  refine HL_cons rfl ?_
  refine o_assign ?_
  try dsimp only [putL, setL, evL, getL]
  refine HL_nil ?_
  refine hK1 _ _ ?_
  refine HT_seq_k ?_
  intro K35 hK35
  refine HT_seq_k ?_
  intro K36 hK36
  refine HT_region ?_
  refine HL_cons rfl ?_
  refine o_move ?_
  try dsimp only [putL, setL, evL, getL]
  refine HL_nil ?_
  refine hK36 _ _ ?_
  refine HT_block ?_
  refine joinH H fun G37 hG37 H => ?_
  refine HT_joinK (fun l' s' => ∃ (x40 : Bool), G37 x40 = some r ∧ l' = [.int .i64 p0, undef, .int .i64 0, .int .i64 p0, .bool x40, getL l' 5, getL l' 6, undef, undef, undef, undef, undef, undef, undef] ∧ Hp sb s F0 s' []) ?_ ?_
  · intro K37 hK37
    refine HT_seq_k ?_
    intro K41 hK41
    refine HT_region ?_
    refine HL_cons rfl ?_
    refine o_bin rfl rfl rfl ?_
    try dsimp only [putL, setL, evL, getL]
    refine HL_cons rfl ?_
    refine o_assign ?_
    try dsimp only [putL, setL, evL, getL]
    refine HL_nil ?_
    refine hK41 _ _ ?_
    rcases Bool.eq_false_or_eq_true (p0 == 1) with hb42 | hb42
    · replace H := iteT hb42 H
      refine HT_true (congrArg Value.bool hb42) ?_
      refine HT_skip ?_
      exact hK37 _ _ ⟨p0 == 1, H, rfl, hH⟩
    · replace H := iteF hb42 H
      refine HT_false (congrArg Value.bool hb42) ?_
      refine HT_region ?_
      refine HL_cons rfl ?_
      refine o_bin rfl rfl rfl ?_
      try dsimp only [putL, setL, evL, getL]
      refine HL_cons rfl ?_
      refine o_assign ?_
      try dsimp only [putL, setL, evL, getL]
      refine HL_nil ?_
      exact hK37 _ _ ⟨p0 == 2, H, rfl, hH⟩
  · rintro l' s43 ⟨x40, H, hl, hH⟩
    generalize getL l' 5 = j5, getL l' 6 = j6 at hl
    subst hl
    replace H := hG37 _ H
    try dsimp only at H
    rcases Bool.eq_false_or_eq_true x40 with hb44 | hb44
    · replace H := iteT hb44 H
      refine HT_true (congrArg Value.bool hb44) ?_
      refine HT_seq_k ?_
      intro K45 hK45
      refine HT_region ?_
      refine HL_cons rfl ?_
      refine o_assign ?_
      try dsimp only [putL, setL, evL, getL]
      refine HL_nil ?_
      refine hK45 _ _ ?_
      refine HT_ret ?_
      exact hQr _ _ [.int .i64 0] ⟨rfl, trivial⟩ (retH (fun r => impl_partsOf.post sb s F0 r _ _) (show some _ = some r from H) ⟨rfl, hH⟩)
    · replace H := iteF hb44 H
      refine HT_false (congrArg Value.bool hb44) ?_
      refine joinH H fun G46 hG46 H => ?_
      refine HT_joinK (fun l' s' => ∃ (x49 : Bool), G46 x49 = some r ∧ l' = [.int .i64 p0, undef, .int .i64 0, .int .i64 p0, .bool x40, j5, j6, .bool x49, getL l' 8, getL l' 9, undef, undef, undef, undef] ∧ Hp sb s F0 s' []) ?_ ?_
      · intro K46 hK46
        refine HT_seq_k ?_
        intro K50 hK50
        refine HT_region ?_
        refine HL_cons rfl ?_
        refine o_bin rfl rfl rfl ?_
        try dsimp only [putL, setL, evL, getL]
        refine HL_cons rfl ?_
        refine o_assign ?_
        try dsimp only [putL, setL, evL, getL]
        refine HL_nil ?_
        refine hK50 _ _ ?_
        rcases Bool.eq_false_or_eq_true (p0 == 6) with hb51 | hb51
        · replace H := iteT hb51 H
          refine HT_true (congrArg Value.bool hb51) ?_
          refine HT_skip ?_
          exact hK46 _ _ ⟨p0 == 6, H, rfl, hH⟩
        · replace H := iteF hb51 H
          refine HT_false (congrArg Value.bool hb51) ?_
          refine HT_region ?_
          refine HL_cons rfl ?_
          refine o_bin rfl rfl rfl ?_
          try dsimp only [putL, setL, evL, getL]
          refine HL_cons rfl ?_
          refine o_assign ?_
          try dsimp only [putL, setL, evL, getL]
          refine HL_nil ?_
          exact hK46 _ _ ⟨p0 == 7, H, rfl, hH⟩
      · rintro l' s52 ⟨x49, H, hl, hH⟩
        generalize getL l' 8 = j8, getL l' 9 = j9 at hl
        subst hl
        replace H := hG46 _ H
        try dsimp only at H
        rcases Bool.eq_false_or_eq_true x49 with hb53 | hb53
        · replace H := iteT hb53 H
          refine HT_true (congrArg Value.bool hb53) ?_
          refine HT_seq_k ?_
          intro K54 hK54
          refine HT_region ?_
          refine HL_cons rfl ?_
          refine o_assign ?_
          try dsimp only [putL, setL, evL, getL]
          refine HL_nil ?_
          refine hK54 _ _ ?_
          refine HT_ret ?_
          exact hQr _ _ [.int .i64 1] ⟨rfl, trivial⟩ (retH (fun r => impl_partsOf.post sb s F0 r _ _) (show some _ = some r from H) ⟨rfl, hH⟩)
        · replace H := iteF hb53 H
          refine HT_false (congrArg Value.bool hb53) ?_
          refine joinH H fun G55 hG55 H => ?_
          refine HT_joinK (fun l' s' => ∃ (x60 : Bool), G55 x60 = some r ∧ l' = [.int .i64 p0, undef, .int .i64 0, .int .i64 p0, .bool x40, j5, j6, .bool x49, j8, j9, .bool x60, getL l' 11, getL l' 12, getL l' 13] ∧ Hp sb s F0 s' []) ?_ ?_
          · intro K55 hK55
            refine HT_seq_k ?_
            intro K61 hK61
            refine HT_region ?_
            refine HL_cons rfl ?_
            refine o_bin rfl rfl rfl ?_
            try dsimp only [putL, setL, evL, getL]
            refine HL_cons rfl ?_
            refine o_assign ?_
            try dsimp only [putL, setL, evL, getL]
            refine HL_nil ?_
            refine hK61 _ _ ?_
            rcases Bool.eq_false_or_eq_true (p0 == 3) with hb62 | hb62
            · replace H := iteT hb62 H
              refine HT_true (congrArg Value.bool hb62) ?_
              refine HT_skip ?_
              exact hK55 _ _ ⟨p0 == 3, H, rfl, hH⟩
            · replace H := iteF hb62 H
              refine HT_false (congrArg Value.bool hb62) ?_
              refine HT_seq_k ?_
              intro K63 hK63
              refine HT_region ?_
              refine HL_cons rfl ?_
              refine o_bin rfl rfl rfl ?_
              try dsimp only [putL, setL, evL, getL]
              refine HL_cons rfl ?_
              refine o_assign ?_
              try dsimp only [putL, setL, evL, getL]
              refine HL_nil ?_
              refine hK63 _ _ ?_
              rcases Bool.eq_false_or_eq_true (p0 == 4) with hb64 | hb64
              · replace H := iteT hb64 H
                refine HT_true (congrArg Value.bool hb64) ?_
                refine HT_skip ?_
                exact hK55 _ _ ⟨p0 == 4, H, rfl, hH⟩
              · replace H := iteF hb64 H
                refine HT_false (congrArg Value.bool hb64) ?_
                refine HT_region ?_
                refine HL_cons rfl ?_
                refine o_bin rfl rfl rfl ?_
                try dsimp only [putL, setL, evL, getL]
                refine HL_cons rfl ?_
                refine o_assign ?_
                try dsimp only [putL, setL, evL, getL]
                refine HL_nil ?_
                exact hK55 _ _ ⟨p0 == 5, H, rfl, hH⟩
          · rintro l' s65 ⟨x60, H, hl, hH⟩
            generalize getL l' 11 = j11, getL l' 12 = j12, getL l' 13 = j13 at hl
            subst hl
            replace H := hG55 _ H
            try dsimp only at H
            rcases Bool.eq_false_or_eq_true x60 with hb66 | hb66
            · replace H := iteT hb66 H
              refine HT_true (congrArg Value.bool hb66) ?_
              refine HT_seq_k ?_
              intro K67 hK67
              refine HT_region ?_
              refine HL_cons rfl ?_
              refine o_assign ?_
              try dsimp only [putL, setL, evL, getL]
              refine HL_nil ?_
              refine hK67 _ _ ?_
              refine HT_ret ?_
              exact hQr _ _ [.int .i64 2] ⟨rfl, trivial⟩ (retH (fun r => impl_partsOf.post sb s F0 r _ _) (show some _ = some r from H) ⟨rfl, hH⟩)
            · replace H := iteF hb66 H
              refine HT_false (congrArg Value.bool hb66) ?_
              refine HT_skip ?_
              refine hK35 _ _ ?_
              refine HT_seq_k ?_
              intro K68 hK68
              refine HT_region ?_
              refine HL_cons rfl ?_
              refine o_assign ?_
              try dsimp only [putL, setL, evL, getL]
              refine HL_nil ?_
              refine hK68 _ _ ?_
              refine HT_ret ?_
              exact hQr _ _ [.int .i64 (-1)] ⟨rfl, trivial⟩ (retH (fun r => impl_partsOf.post sb s F0 r _ _) (show some _ = some r from H) ⟨rfl, hH⟩)
def slices_Clone_int_int.f (p0 : List (Int)) : Option (List (Int)) := app? 17592186044416 [] p0
def slices_Clone_int_int.post (sb s : St) (F0 : Fp) (r : List (Int)) : Value → St → Prop := fun v s' => ∃ (A0 : Option Addr) (c0 : Nat), v = .slice A0 r.length c0 ∧ Hp sb s F0 s' [Ck.ol OI 3 A0 c0 r]
set_option maxRecDepth 100000 in
set_option maxHeartbeats 4000000 in
theorem slices_Clone_int_int.ok (sb s : St) (F0 : Fp) (A0p : Option Addr) (c0p : Nat) (p0 : List (Int)) (HRp0 : Rd KI sb A0p c0p p0) (hH : Hp sb s F0 s []) (r : List (Int)) (H : slices_Clone_int_int.f p0 = some r) : GCall Try.prog 141 #[.slice A0p p0.length c0p] s (slices_Clone_int_int.post sb s F0 r) := by
  refine GCall_ofk [.tmp 2] [.slice A0p p0.length c0p, undef, undef, undef, undef, undef, undef, undef] Try.func141 rfl rfl rfl ?_
  intro w Q hQr hQn hQp
  unfold slices_Clone_int_int.f at H
  refine HT_seq_k ?_
  intro K1 hK1
  refine HT_region ?_
  refine HL_cons rfl ?_
  refine o_assign ?_
  refine HL_nil ?_
  refine hK1 _ _ ?_
  refine HT_seq_k ?_
  intro K2 hK2
  refine HT_seq_k ?_
  intro K3 hK3
  refine HT_region ?_
  refine HL_cons rfl ?_
  refine o_move ?_
  dsimp only [putL, setL, evL, getL]
  refine HL_cons rfl ?_
  refine o_eqN rfl rfl Try.underlying24 ?_
  dsimp only [putL, setL, evL, getL]
  refine HL_nil ?_
  refine hK3 _ _ ?_
  cases A0p with
  | none =>
    have hp : p0 = [] := by
      by_cases h : p0 = []
      · exact h
      · obtain ⟨b, o, hA, _⟩ := HRp0.2.2 h
        cases hA
    subst hp
    obtain ⟨_, rfl⟩ := app?_some H
    refine HT_true rfl ?_
    refine HT_seq_k ?_
    intro K4 hK4
    refine HT_region ?_
    refine HL_cons rfl ?_
    refine o_assign ?_
    dsimp only [putL, setL, evL, getL]
    refine HL_nil ?_
    refine hK4 _ _ ?_
    refine HT_ret ?_
    exact hQr _ _ [.slice none 0 0] ⟨rfl, trivial⟩ ⟨none, 0, rfl, hH.nil (K := KI) OI 3⟩
  | some a =>
    refine HT_false rfl ?_
    refine HT_skip ?_
    refine hK2 _ _ ?_
    refine HT_seq_k ?_
    intro K4 hK4
    refine HT_region ?_
    refine HL_cons rfl ?_
    refine o_lit0H (α := Int) (K := KI) (O := OI) hH Try.underlying24 tI3 ?_
    intro A1 s1 hH hG
    dsimp only [putL, setL, evL, getL]
    refine HL_cons rfl ?_
    refine o_move ?_
    dsimp only [putL, setL, evL, getL]
    refine HL_cons rfl ?_
    refine o_appF (n := 17592186044416) (A := A1) (c := 0) (xs := ([] : List (Int))) (ys := p0) (B := some a) (c2 := c0p) hH 0 rfl rfl rfl rfl Try.underlying24 tI3 rfl (by decide) (by decide) (by decide) (Src.flat (HRp0.mono hH.bs.mono)) H ?_
    intro A2 c2 s2 hH
    dsimp only [putL, setL, evL, getL]
    refine HL_cons rfl ?_
    refine o_assign ?_
    dsimp only [putL, setL, evL, getL]
    refine HL_nil ?_
    refine hK4 _ _ ?_
    refine HT_ret ?_
    exact hQr _ _ [.slice A2 r.length c2] ⟨rfl, trivial⟩ ⟨A2, c2, rfl, hH⟩
def impl_parts.l1 (p0 : List ((Int) × (List (Int)))) : Nat → (List (List (Int))) → (List (Int)) → Int → Option (Lo ((List (List (Int))) × (List (Int))) ((List (List (Int))) × Bool))
  | 0, _, _, _ => none
  | kf + 1, x301, x302, x303 => if (decide (x303 < (p0.length : Int))) = true then ((rd? p0 x303).bind fun u418 => (impl_partsOf.f u418.1).bind fun u423 => (if (decide (u423 < 0)) = true then (some true) else (some (decide (u423 > (x302.length : Int))))).bind fun (o : Bool) => match o with | x435 => (if x435 = true then ((some ([], false)).bind fun z => some (Lo.ret z)) else ((cut? x302 (IntKind.i64.wrap ((x302.length : Int) - u423)) (x302.length : Int)).bind fun x441 => (slices_Clone_int_int.f x441).bind fun u442 => (app? 5864062014805 x301 [u442]).bind fun x445 => (cut? x302 0 (IntKind.i64.wrap ((x302.length : Int) - u423))).bind fun x446 => (app? 17592186044416 x446 [x303]).bind fun x449 => impl_parts.l1 p0 kf x445 x449 (IntKind.i64.wrap (x303 + 1))))) else (some (Lo.go (x301, x302)))
def impl_parts.f (p0 : List ((Int) × (List (Int)))) : Option ((List (List (Int))) × Bool) := (impl_parts.l1 p0 ((((p0.length : Int)) - (0)).toNat + 2) ([] : List (List (Int))) ([] : List (Int)) 0).bind fun (o : Lo ((List (List (Int))) × (List (Int))) ((List (List (Int))) × Bool)) => match o with | .go (x228, x229) => (some (x228, ((x229.length : Int) == 1))) | .ret z => some z
def impl_parts.post (sb s : St) (F0 : Fp) (r : (List (List (Int))) × Bool) : Value → St → Prop := fun v s' => ∃ (A0 : Option Addr) (c0 : Nat), v = .tuple #[.slice A0 r.1.length c0, .bool r.2] ∧ Hp sb s F0 s' [Ck.ol (Ow.sl OI 3) 24 A0 c0 r.1]
set_option maxRecDepth 100000 in
set_option maxHeartbeats 4000000 in
theorem impl_parts.ok (sb s : St) (F0 : Fp) (A0p : Option Addr) (c0p : Nat) (p0 : List ((Int) × (List (Int)))) (HRp0 : Rd KS139 sb A0p c0p p0) (hH : Hp sb s F0 s []) (r : (List (List (Int))) × Bool) (H : impl_parts.f p0 = some r) : GCall Try.prog 155 #[.slice A0p p0.length c0p] s (impl_parts.post sb s F0 r) := by
  refine GCall_ofk [.tmp 2, .tmp 3] [.slice A0p p0.length c0p, undef, undef, undef, undef, undef, undef, undef, undef, undef, undef, undef, undef, undef, undef, undef, undef, undef, undef, undef, undef, undef, undef, undef, undef, undef, undef, undef, undef, undef, undef, undef, undef, undef, undef, undef, undef, undef, undef, undef, undef, undef, undef, undef, undef, undef, undef, undef, undef, undef, undef, undef, undef] Try.func155 rfl rfl rfl ?_
  intro w Q hQr hQn hQp
  replace H := topE H
  unfold impl_parts.f at H
  refine HT_seq_k ?_
  intro K1 hK1
  refine HT_region ?_
  refine HL_cons rfl ?_
  refine o_assign ?_
  try dsimp only [putL, setL, evL, getL]
  refine HL_cons rfl ?_
  refine o_assign ?_
  try dsimp only [putL, setL, evL, getL]
  refine HL_nil ?_
  refine hK1 _ _ ?_
  refine HT_seq_k ?_
  intro K2 hK2
  refine HT_region ?_
  refine HL_cons rfl ?_
  refine o_lit0H (α := List (Int)) (K := (Kd.sl KI)) (O := (Ow.sl OI 3)) hH Try.underlying105 tI24 ?_
  intro A3 s3 hH' hG
  replace hH : Hp sb s F0 s3 [Ck.ol (Ow.sl OI 3) 24 A3 0 ([] : List (List (Int)))] := hH'
  clear hH' hG
  try dsimp only [putL, setL, evL, getL]
  refine HL_cons rfl ?_
  refine o_lit0H (α := Int) (K := KI) (O := OI) hH Try.underlying24 tI3 ?_
  intro A4 s4 hH' hG
  replace hH : Hp sb s F0 s4 [Ck.ol (Ow.sl OI 3) 24 A3 0 ([] : List (List (Int))), Ck.ol OI 3 A4 0 ([] : List (Int))] := hH'
  clear hH' hG
  try dsimp only [putL, setL, evL, getL]
  refine HL_cons rfl ?_
  refine o_assign ?_
  try dsimp only [putL, setL, evL, getL]
  refine HL_cons rfl ?_
  refine o_assign ?_
  try dsimp only [putL, setL, evL, getL]
  refine HL_nil ?_
  refine hK2 _ _ ?_
  refine HT_seq_k ?_
  intro K5 hK5
  refine HT_seq_k ?_
  intro K6 hK6
  refine HT_region ?_
  refine HL_cons rfl ?_
  refine o_move ?_
  try dsimp only [putL, setL, evL, getL]
  refine HL_cons rfl ?_
  refine o_len rfl Try.underlying57 ?_
  try dsimp only [putL, setL, evL, getL]
  refine HL_cons rfl ?_
  refine o_move ?_
  try dsimp only [putL, setL, evL, getL]
  refine HL_nil ?_
  refine hK6 _ _ ?_
  refine joinH H fun G7 hG7 H => ?_
  refine HT_toK (fun l' s' => ∃ (x228 : List (List (Int))) (A228 : Option Addr) (c228 : Nat) (x229 : List (Int)) (A229 : Option Addr) (c229 : Nat), G7 (.go (x228, x229)) = some r ∧ l' = [.slice A0p p0.length c0p, undef, getL l' 2, getL l' 3, .slice A228 x228.length c228, .slice A229 x229.length c229, getL l' 6, getL l' 7, getL l' 8, .slice A3 ([] : List (List (Int))).length 0, .slice A4 ([] : List (Int)).length 0, .slice A0p p0.length c0p, .int .i64 (p0.length : Int), getL l' 13, getL l' 14, getL l' 15, getL l' 16, getL l' 17, getL l' 18, getL l' 19, getL l' 20, getL l' 21, getL l' 22, getL l' 23, getL l' 24, getL l' 25, getL l' 26, getL l' 27, getL l' 28, getL l' 29, getL l' 30, getL l' 31, getL l' 32, getL l' 33, getL l' 34, getL l' 35, getL l' 36, getL l' 37, getL l' 38, getL l' 39, getL l' 40, getL l' 41, getL l' 42, getL l' 43, getL l' 44, getL l' 45, getL l' 46, getL l' 47, getL l' 48, undef, undef, undef, undef] ∧ Hp sb s F0 s' [Ck.ol (Ow.sl OI 3) 24 A228 c228 x228, Ck.ol OI 3 A229 c229 x229]) ?_ ?_
  · intro K7 hK7
    refine HT_block ?_
    refine HT_loopK (fun kf l' s' => ∃ (x301 : List (List (Int))) (A301 : Option Addr) (c301 : Nat) (x302 : List (Int)) (A302 : Option Addr) (c302 : Nat) (x303 : Int), (impl_parts.l1 p0 kf x301 x302 x303).bind G7 = some r ∧ l' = [.slice A0p p0.length c0p, undef, getL l' 2, getL l' 3, .slice A301 x301.length c301, .slice A302 x302.length c302, getL l' 6, getL l' 7, getL l' 8, .slice A3 ([] : List (List (Int))).length 0, .slice A4 ([] : List (Int)).length 0, .slice A0p p0.length c0p, .int .i64 (p0.length : Int), .int .i64 x303, getL l' 14, getL l' 15, getL l' 16, getL l' 17, getL l' 18, getL l' 19, getL l' 20, getL l' 21, getL l' 22, getL l' 23, getL l' 24, getL l' 25, getL l' 26, getL l' 27, getL l' 28, getL l' 29, getL l' 30, getL l' 31, getL l' 32, getL l' 33, getL l' 34, getL l' 35, getL l' 36, getL l' 37, getL l' 38, getL l' 39, getL l' 40, getL l' 41, getL l' 42, getL l' 43, getL l' 44, getL l' 45, getL l' 46, getL l' 47, getL l' 48, undef, undef, undef, undef] ∧ Hp sb s F0 s' [Ck.ol (Ow.sl OI 3) 24 A301 c301 x301, Ck.ol OI 3 A302 c302 x302]) ((((p0.length : Int)) - (0)).toNat + 2) ⟨([] : List (List (Int))), A3, 0, ([] : List (Int)), A4, 0, 0, H, rfl, hH⟩ ?_
    rintro kf l' s378 ⟨x301, A301, c301, x302, A302, c302, x303, H, hl, hH⟩ K378 hK378
    generalize getL l' 2 = j2, getL l' 3 = j3, getL l' 6 = j6, getL l' 7 = j7, getL l' 8 = j8, getL l' 14 = j14, getL l' 15 = j15, getL l' 16 = j16, getL l' 17 = j17, getL l' 18 = j18, getL l' 19 = j19, getL l' 20 = j20, getL l' 21 = j21, getL l' 22 = j22, getL l' 23 = j23, getL l' 24 = j24, getL l' 25 = j25, getL l' 26 = j26, getL l' 27 = j27, getL l' 28 = j28, getL l' 29 = j29, getL l' 30 = j30, getL l' 31 = j31, getL l' 32 = j32, getL l' 33 = j33, getL l' 34 = j34, getL l' 35 = j35, getL l' 36 = j36, getL l' 37 = j37, getL l' 38 = j38, getL l' 39 = j39, getL l' 40 = j40, getL l' 41 = j41, getL l' 42 = j42, getL l' 43 = j43, getL l' 44 = j44, getL l' 45 = j45, getL l' 46 = j46, getL l' 47 = j47, getL l' 48 = j48 at hl
    subst hl
    cases kf with
    | zero => simp [impl_parts.l1] at H
    | succ kf =>
      rw [impl_parts.l1] at H
      refine HT_seq_k ?_
      intro K379 hK379
      refine HT_region ?_
      refine HL_cons rfl ?_
      refine o_bin rfl rfl rfl ?_
      try dsimp only [putL, setL, evL, getL]
      refine HL_nil ?_
      refine hK379 _ _ ?_
      refine HT_seq_k ?_
      intro K380 hK380
      rcases Bool.eq_false_or_eq_true (decide (x303 < (p0.length : Int))) with hb381 | hb381
      · replace H := iteT hb381 H
        refine HT_true (congrArg Value.bool hb381) ?_
        refine HT_skip ?_
        refine hK380 _ _ ?_
        refine HT_seq_k ?_
        intro K416 hK416
        refine HT_block ?_
        refine HT_seq_k ?_
        intro K417 hK417
        refine HT_region ?_
        refine HL_cons rfl ?_
        refine o_move ?_
        try dsimp only [putL, setL, evL, getL]
        replace H := headE H
        obtain ⟨u418, hu418, H⟩ := H
        obtain ⟨b418, o418, cs418, hr418, hh418, hel418⟩ := Rd.elb HRp0 hu418
        obtain ⟨_, _, rfl, rfl, ⟨A419, c419, rfl, D419⟩⟩ := hr418
        refine HL_cons rfl ?_
        refine hel418 s378 rfl rfl Try.underlying57 tI139 ?_
        try dsimp only [putL, setL, evL, getL]
        refine HL_cons rfl ?_
        refine o_loads' [.int .i64 u418.1, .slice A419 u418.2.length c419] rfl Try.underlying139 rfl tI139 rfl (fun j v hj => (hh418 hH.bs.mono) j v hj) ?_
        try dsimp only [putL, setL, evL, getL]
        refine HL_cons rfl ?_
        refine o_allocH hH tI139 ?_
        intro b420 s420 hH' hG
        replace hH : Hp sb s F0 s420 [Ck.ol (Ow.sl OI 3) 24 A301 c301 x301, Ck.ol OI 3 A302 c302 x302, Ck.ov b420 [.int .i64 0, .slice none 0 0] 139] := hH'
        clear hH' hG
        try dsimp only [putL, setL, evL, getL]
        refine HL_cons rfl ?_
        refine o_assign ?_
        try dsimp only [putL, setL, evL, getL]
        refine HL_cons rfl ?_
        refine o_stvH (vs := [.int .i64 u418.1, .slice A419 u418.2.length c419]) (us' := [.int .i64 u418.1, .slice A419 u418.2.length c419]) hH 2 rfl rfl rfl rfl rfl tI139 rfl (List.cons_ne_nil _ _) rfl rfl rfl ?_
        intro s421 hH'
        replace hH : Hp sb s F0 s421 [Ck.ol (Ow.sl OI 3) 24 A301 c301 x301, Ck.ol OI 3 A302 c302 x302, Ck.ov b420 [.int .i64 u418.1, .slice A419 u418.2.length c419] 139] := hH'
        clear hH'
        try dsimp only [putL, setL, evL, getL]
        refine HL_nil ?_
        refine hK417 _ _ ?_
        refine HT_seq_k ?_
        intro K422 hK422
        refine HT_region ?_
        refine HL_cons rfl ?_
        refine o_faddr' (ft := 3) (off := 0) rfl Try.underlying139 rfl tI3 (by decide) ?_
        try dsimp only [putL, setL, evL, getL]
        refine HL_cons rfl ?_
        refine o_load' rfl Try.underlying3 rfl (hH.hasv 2 rfl rfl) ?_
        try dsimp only [putL, setL, evL, getL]
        replace H := headE H
        obtain ⟨u423, hu423, H⟩ := H
        refine HL_cons rfl ?_
        refine o_call (args := #[.int .i64 u418.1]) Try.func203 rfl rfl rfl (impl_partsOf.ok sb s421 no u418.1 (Hp.own hH.bs) _ hu423) ?_
        rintro _ s423 ⟨rfl, hD⟩
        replace hH := hH.back0 hD (Up.refl _ _ _)
        clear hD
        dsimp only [addC, setC, rmC, selC, getC] at hH
        try dsimp only [putL, setL, evL, getL]
        refine HL_cons rfl ?_
        refine o_assign ?_
        try dsimp only [putL, setL, evL, getL]
        refine HL_nil ?_
        refine hK422 _ _ ?_
        refine HT_seq_k ?_
        intro K432 hK432
        refine joinH H fun G433 hG433 H => ?_
        refine HT_joinK (fun l' s' => ∃ (x435 : Bool), G433 x435 = some r ∧ l' = [.slice A0p p0.length c0p, undef, j2, j3, .slice A301 x301.length c301, .slice A302 x302.length c302, .int .i64 x303, .pointer (some ⟨b420, 0, none⟩), .int .i64 u423, .slice A3 ([] : List (List (Int))).length 0, .slice A4 ([] : List (Int)).length 0, .slice A0p p0.length c0p, .int .i64 (p0.length : Int), .int .i64 x303, .bool (decide (x303 < (p0.length : Int))), .int .i64 x303, .pointer (some ⟨b418, o418, none⟩), .agg #[.int .i64 u418.1, .slice A419 u418.2.length c419], .pointer (some ⟨b420, 0 + 0, none⟩), .int .i64 u418.1, .int .i64 u423, getL l' 21, getL l' 22, getL l' 23, getL l' 24, getL l' 25, getL l' 26, getL l' 27, .bool x435, j29, j30, j31, j32, j33, j34, j35, j36, j37, j38, j39, j40, j41, j42, j43, j44, j45, j46, j47, j48, undef, undef, undef, undef] ∧ Hp sb s F0 s' [Ck.ol (Ow.sl OI 3) 24 A301 c301 x301, Ck.ol OI 3 A302 c302 x302]) ?_ ?_
        · intro K433 hK433
          refine HT_region ?_
          refine HL_cons rfl ?_
          refine o_move ?_
          try dsimp only [putL, setL, evL, getL]
          refine HL_cons rfl ?_
          refine o_bin rfl rfl rfl ?_
          try dsimp only [putL, setL, evL, getL]
          refine HL_cons rfl ?_
          refine o_move ?_
          try dsimp only [putL, setL, evL, getL]
          rcases Bool.eq_false_or_eq_true (decide (u423 < 0)) with hb436 | hb436
          · replace H := iteT hb436 H
            refine HL_skip ?_ ?_
            · exact wantF (j := 2) (b := false) (t := 23) (c := decide (u423 < 0)) rfl rfl rfl rfl hb436
            try dsimp only [putL, setL, evL, getL]
            refine HL_skip ?_ ?_
            · exact wantF (j := 2) (b := false) (t := 23) (c := decide (u423 < 0)) rfl rfl rfl rfl hb436
            try dsimp only [putL, setL, evL, getL]
            refine HL_skip ?_ ?_
            · exact wantF (j := 2) (b := false) (t := 23) (c := decide (u423 < 0)) rfl rfl rfl rfl hb436
            try dsimp only [putL, setL, evL, getL]
            refine HL_skip ?_ ?_
            · exact wantF (j := 2) (b := false) (t := 23) (c := decide (u423 < 0)) rfl rfl rfl rfl hb436
            try dsimp only [putL, setL, evL, getL]
            refine HL_cons rfl ?_
            refine o_pickT rfl hb436 ?_
            try dsimp only [putL, setL, evL, getL]
            refine HL_nil ?_
            exact hK433 _ _ ⟨true, H, rfl, hH.sel [0, 1] (by decide)⟩
          · replace H := iteF hb436 H
            refine HL_want ?_ ?_
            · exact wantT (j := 2) (b := false) (t := 23) (c := decide (u423 < 0)) rfl rfl rfl rfl hb436
            refine o_move ?_
            try dsimp only [putL, setL, evL, getL]
            refine HL_want ?_ ?_
            · exact wantT (j := 2) (b := false) (t := 23) (c := decide (u423 < 0)) rfl rfl rfl rfl hb436
            refine o_move ?_
            try dsimp only [putL, setL, evL, getL]
            refine HL_want ?_ ?_
            · exact wantT (j := 2) (b := false) (t := 23) (c := decide (u423 < 0)) rfl rfl rfl rfl hb436
            refine o_len rfl Try.underlying24 ?_
            try dsimp only [putL, setL, evL, getL]
            refine HL_want ?_ ?_
            · exact wantT (j := 2) (b := false) (t := 23) (c := decide (u423 < 0)) rfl rfl rfl rfl hb436
            refine o_bin rfl rfl rfl ?_
            try dsimp only [putL, setL, evL, getL]
            refine HL_cons rfl ?_
            refine o_pickF rfl hb436 ?_
            try dsimp only [putL, setL, evL, getL]
            refine HL_nil ?_
            exact hK433 _ _ ⟨decide (u423 > (x302.length : Int)), H, rfl, hH.sel [0, 1] (by decide)⟩
        · rintro l' s437 ⟨x435, H, hl, hH⟩
          generalize getL l' 21 = j21, getL l' 22 = j22, getL l' 23 = j23, getL l' 24 = j24, getL l' 25 = j25, getL l' 26 = j26, getL l' 27 = j27 at hl
          subst hl
          replace H := hG433 _ H
          try dsimp only at H
          rcases Bool.eq_false_or_eq_true x435 with hb438 | hb438
          · replace H := iteT hb438 H
            refine HT_true (congrArg Value.bool hb438) ?_
            refine HT_seq_k ?_
            intro K439 hK439
            refine HT_region ?_
            refine HL_cons rfl ?_
            refine o_assign ?_
            try dsimp only [putL, setL, evL, getL]
            refine HL_cons rfl ?_
            refine o_assign ?_
            try dsimp only [putL, setL, evL, getL]
            refine HL_nil ?_
            refine hK439 _ _ ?_
            refine HT_ret ?_
            replace H := escH (fun z hz => hG7 _ hz) H
            exact hQr _ _ [.slice none 0 0, .bool false] ⟨rfl, rfl, trivial⟩ (retH (fun r => impl_parts.post sb s F0 r _ _) (show some _ = some r from H) ⟨none, 0, rfl, (hH.nil (K := (Kd.sl KI)) (Ow.sl OI 3) 24).sel [2] (by decide)⟩)
          · replace H := iteF hb438 H
            refine HT_false (congrArg Value.bool hb438) ?_
            refine HT_skip ?_
            refine hK432 _ _ ?_
            refine HT_seq_k ?_
            intro K440 hK440
            refine HT_region ?_
            refine HL_cons rfl ?_
            refine o_move ?_
            try dsimp only [putL, setL, evL, getL]
            refine HL_cons rfl ?_
            refine o_move ?_
            try dsimp only [putL, setL, evL, getL]
            refine HL_cons rfl ?_
            refine o_move ?_
            try dsimp only [putL, setL, evL, getL]
            refine HL_cons rfl ?_
            refine o_len rfl Try.underlying24 ?_
            try dsimp only [putL, setL, evL, getL]
            refine HL_cons rfl ?_
            refine o_move ?_
            try dsimp only [putL, setL, evL, getL]
            refine HL_cons rfl ?_
            refine o_bin rfl rfl rfl ?_
            try dsimp only [putL, setL, evL, getL]
            replace H := headE H
            obtain ⟨x441, hx441, H⟩ := H
            refine HL_cons rfl ?_
            refine o_cutA (xs := x302) (kl := .i64) (kh := .i64) (L := IntKind.i64.wrap ((x302.length : Int) - u423)) (H := (x302.length : Int)) rfl rfl rfl Try.underlying24 tI3 (hH.rd 1 rfl).1 hx441 ?_
            have D441 := @Der.cut _ _ OI 3 A302 c302 _ _ _ _ hx441
            try dsimp only [putL, setL, evL, getL]
            replace H := headE H
            obtain ⟨u442, hu442, H⟩ := H
            refine HL_cons rfl ?_
            refine o_call (args := #[.slice (cutA A302 c302 (Int.toNat (IntKind.i64.wrap ((x302.length : Int) - u423))) (Kd.sz KI)) x441.length (c302 - Int.toNat (IntKind.i64.wrap ((x302.length : Int) - u423)))]) Try.func141 rfl rfl rfl (slices_Clone_int_int.ok s437 s437 no (cutA A302 c302 (Int.toNat (IntKind.i64.wrap ((x302.length : Int) - u423))) (Kd.sz KI)) (c302 - Int.toNat (IntKind.i64.wrap ((x302.length : Int) - u423))) x441 (D441 _ _ hH.bs (hH.ckP 1)) (Hp.own (Bs.refl s437)) _ hu442) ?_
            rintro _ s442 ⟨A443, c443, rfl, hD⟩
            replace hH := hH.back0T hD
            clear hD
            dsimp only [addC, setC, rmC, selC, getC] at hH
            try dsimp only [putL, setL, evL, getL]
            replace hH := hH.conv [2] (by decide) (d := Ck.el (Ow.sl OI 3) [.slice A443 u442.length c443] u442) Ent.sl
            dsimp only [addC, setC, rmC, selC, getC] at hH
            refine HL_cons rfl ?_
            refine o_litD (K := (Kd.sl KI)) (O := (Ow.sl OI 3)) (ca := #[.slice A443 u442.length c443]) [[.slice A443 u442.length c443]] [u442] hH [3] (by decide) rfl Try.underlying105 tI24 rfl (by decide) rfl rfl rfl rfl (by kernel_rfl) rfl ?_
            intro A444 s444 hH' hG
            replace hH : Hp sb s F0 s444 [Ck.ol (Ow.sl OI 3) 24 A301 c301 x301, Ck.ol OI 3 A302 c302 x302, Ck.emp, Ck.emp, Ck.ol (Ow.sl OI 3) 24 A444 1 [u442]] := hH'
            clear hH' hG
            try dsimp only [putL, setL, evL, getL]
            replace H := headE H
            obtain ⟨x445, hx445, H⟩ := H
            refine HL_cons rfl ?_
            refine o_appD (K := (Kd.sl KI)) (n := 5864062014805) (A := A301) (c := c301) (xs := x301) (ys := [u442]) (B := A444) (c2 := 1) hH 0 4 (by decide) rfl rfl rfl rfl rfl Try.underlying105 tI24 rfl (by decide) (by decide) (by decide) hx445 ?_
            intro A445 c445 s445 hH'
            replace hH : Hp sb s F0 s445 [Ck.ol (Ow.sl OI 3) 24 A445 c445 x445, Ck.ol OI 3 A302 c302 x302, Ck.emp, Ck.emp, Ck.emp] := hH'
            clear hH'
            try dsimp only [putL, setL, evL, getL]
            refine HL_cons rfl ?_
            refine o_assign ?_
            try dsimp only [putL, setL, evL, getL]
            refine HL_nil ?_
            refine hK440 _ _ ?_
            refine HT_region ?_
            refine HL_cons rfl ?_
            refine o_move ?_
            try dsimp only [putL, setL, evL, getL]
            refine HL_cons rfl ?_
            refine o_move ?_
            try dsimp only [putL, setL, evL, getL]
            refine HL_cons rfl ?_
            refine o_len rfl Try.underlying24 ?_
            try dsimp only [putL, setL, evL, getL]
            refine HL_cons rfl ?_
            refine o_move ?_
            try dsimp only [putL, setL, evL, getL]
            refine HL_cons rfl ?_
            refine o_bin rfl rfl rfl ?_
            try dsimp only [putL, setL, evL, getL]
            replace H := headE H
            obtain ⟨x446, hx446, H⟩ := H
            refine HL_cons rfl ?_
            refine o_cutA (xs := x302) (kl := .i64) (kh := .i64) (L := 0) (H := IntKind.i64.wrap ((x302.length : Int) - u423)) rfl rfl rfl Try.underlying24 tI3 (hH.rd 1 rfl).1 hx446 ?_
            have D446 := @Der.cut _ _ OI 3 A302 c302 _ _ _ _ hx446
            try dsimp only [putL, setL, evL, getL]
            refine HL_cons rfl ?_
            refine o_move ?_
            try dsimp only [putL, setL, evL, getL]
            refine HL_cons rfl ?_
            refine o_litF (K := KI) (O := OI) (ca := #[.int .i64 x303]) [[.int .i64 x303]] [x303] hH Try.underlying24 tI3 rfl (by decide) rfl rfl (by kernel_rfl) rfl ⟨rfl, Ent.own (Ent.flat rfl), trivial⟩ ?_
            intro A447 s447 hH' hG
            replace hH : Hp sb s F0 s447 [Ck.ol (Ow.sl OI 3) 24 A445 c445 x445, Ck.ol OI 3 A302 c302 x302, Ck.emp, Ck.emp, Ck.emp, Ck.ol OI 3 A447 1 [x303]] := hH'
            clear hH' hG
            try dsimp only [putL, setL, evL, getL]
            replace hH := hH.cut 1 rfl rfl hx446
            dsimp only [addC, setC, rmC, selC, getC] at hH
            replace H := headE H
            obtain ⟨x449, hx449, H⟩ := H
            refine HL_cons rfl ?_
            refine o_appF (K := KI) (n := 17592186044416) (A := (cutA A302 c302 (Int.toNat 0) (Kd.sz KI))) (c := c302 - Int.toNat 0) (xs := x446) (ys := [x303]) (B := A447) (c2 := 1) hH 1 rfl rfl rfl rfl Try.underlying24 tI3 rfl (by decide) (by decide) (by decide) (Src.flat (hH.rd 5 rfl)) hx449 ?_
            intro A449 c449 s449 hH'
            replace hH : Hp sb s F0 s449 [Ck.ol (Ow.sl OI 3) 24 A445 c445 x445, Ck.ol OI 3 A449 c449 x449, Ck.emp, Ck.emp, Ck.emp, Ck.ol OI 3 A447 1 [x303]] := hH'
            clear hH'
            try dsimp only [putL, setL, evL, getL]
            refine HL_cons rfl ?_
            refine o_assign ?_
            try dsimp only [putL, setL, evL, getL]
            refine HL_nil ?_
            refine hK416 _ _ ?_
            refine HT_region ?_
            refine HL_cons rfl ?_
            refine o_bin rfl rfl rfl ?_
            try dsimp only [putL, setL, evL, getL]
            refine HL_cons rfl ?_
            refine o_move ?_
            try dsimp only [putL, setL, evL, getL]
            refine HL_nil ?_
            exact hK378 _ _ ⟨kf, Nat.lt_succ_self kf, x445, A445, c445, x449, A449, c449, IntKind.i64.wrap (x303 + 1), H, rfl, hH.sel [0, 1] (by decide)⟩
      · replace H := iteF hb381 H
        refine HT_false (congrArg Value.bool hb381) ?_
        refine HT_exit ?_
        exact hK7 _ _ ⟨x301, A301, c301, x302, A302, c302, H, rfl, hH⟩
  · rintro l' s450 ⟨x228, A228, c228, x229, A229, c229, H, hl, hH⟩
    generalize getL l' 2 = j2, getL l' 3 = j3, getL l' 6 = j6, getL l' 7 = j7, getL l' 8 = j8, getL l' 13 = j13, getL l' 14 = j14, getL l' 15 = j15, getL l' 16 = j16, getL l' 17 = j17, getL l' 18 = j18, getL l' 19 = j19, getL l' 20 = j20, getL l' 21 = j21, getL l' 22 = j22, getL l' 23 = j23, getL l' 24 = j24, getL l' 25 = j25, getL l' 26 = j26, getL l' 27 = j27, getL l' 28 = j28, getL l' 29 = j29, getL l' 30 = j30, getL l' 31 = j31, getL l' 32 = j32, getL l' 33 = j33, getL l' 34 = j34, getL l' 35 = j35, getL l' 36 = j36, getL l' 37 = j37, getL l' 38 = j38, getL l' 39 = j39, getL l' 40 = j40, getL l' 41 = j41, getL l' 42 = j42, getL l' 43 = j43, getL l' 44 = j44, getL l' 45 = j45, getL l' 46 = j46, getL l' 47 = j47, getL l' 48 = j48 at hl
    subst hl
    replace H := hG7 _ H
    try dsimp only at H
    refine hK5 _ _ ?_
    refine HT_seq_k ?_
    intro K451 hK451
    refine HT_region ?_
    refine HL_cons rfl ?_
    refine o_move ?_
    try dsimp only [putL, setL, evL, getL]
    refine HL_cons rfl ?_
    refine o_move ?_
    try dsimp only [putL, setL, evL, getL]
    refine HL_cons rfl ?_
    refine o_len rfl Try.underlying24 ?_
    try dsimp only [putL, setL, evL, getL]
    refine HL_cons rfl ?_
    refine o_bin rfl rfl rfl ?_
    try dsimp only [putL, setL, evL, getL]
    refine HL_cons rfl ?_
    refine o_assign ?_
    try dsimp only [putL, setL, evL, getL]
    refine HL_cons rfl ?_
    refine o_assign ?_
    try dsimp only [putL, setL, evL, getL]
    refine HL_nil ?_
    refine hK451 _ _ ?_
    refine HT_ret ?_
    exact hQr _ _ [.slice A228 x228.length c228, .bool ((x229.length : Int) == 1)] ⟨rfl, rfl, trivial⟩ (retH (fun r => impl_parts.post sb s F0 r _ _) (show some _ = some r from H) ⟨A228, c228, rfl, hH.sel [0] (by decide)⟩)
def impl_GoodRe.f (p0 : List ((Int) × (List (Int)))) : Option Bool := ((impl_inRange.f (p0.length : Int) 1 40).bind fun u20 => if (!u20) = true then (some true) else ((slices_ContainsFunc_impl_Re_impl_Re_impl_GoodRe_1.f p0).bind fun u22 => some u22)).bind fun (o : Bool) => match o with | x19 => (if x19 = true then (some false) else ((impl_parts.f p0).bind fun u27 => some u27.2))
def impl_GoodRe.post (sb s : St) (F0 : Fp) (r : Bool) : Value → St → Prop := fun v s' => v = .bool r ∧ Hp sb s F0 s' []
set_option maxRecDepth 100000 in
set_option maxHeartbeats 4000000 in
theorem impl_GoodRe.ok (sb s : St) (F0 : Fp) (A0p : Option Addr) (c0p : Nat) (p0 : List ((Int) × (List (Int)))) (HRp0 : Rd KS139 sb A0p c0p p0) (hH : Hp sb s F0 s []) (r : Bool) (H : impl_GoodRe.f p0 = some r) : GCall Try.prog 131 #[.slice A0p p0.length c0p] s (impl_GoodRe.post sb s F0 r) := by
  refine GCall_ofk [.tmp 2] [.slice A0p p0.length c0p, undef, undef, undef, undef, undef, undef, undef, undef, undef, undef, undef, undef, undef, undef, undef, undef, undef, undef] Try.func131 rfl rfl rfl ?_
  intro w Q hQr hQn hQp
  replace H := topE H
  unfold impl_GoodRe.f at H
  refine HT_seq_k ?_
  intro K1 hK1
  refine HT_region ?_
  refine HL_cons rfl ?_
  refine o_assign ?_
  try dsimp only [putL, setL, evL, getL]
  refine HL_nil ?_
  refine hK1 _ _ ?_
  refine HT_seq_k ?_
  intro K14 hK14
  refine joinH H fun G15 hG15 H => ?_
  refine HT_joinK (fun l' s' => ∃ (x19 : Bool), G15 x19 = some r ∧ l' = [.slice A0p p0.length c0p, undef, .bool false, undef, undef, getL l' 5, getL l' 6, getL l' 7, getL l' 8, getL l' 9, getL l' 10, getL l' 11, .bool x19, undef, undef, undef, undef, undef, undef] ∧ Hp sb s F0 s' []) ?_ ?_
  · intro K15 hK15
    refine HT_region ?_
    refine HL_cons rfl ?_
    refine o_move ?_
    try dsimp only [putL, setL, evL, getL]
    refine HL_cons rfl ?_
    refine o_len rfl Try.underlying57 ?_
    try dsimp only [putL, setL, evL, getL]
    replace H := headE H
    obtain ⟨u20, hu20, H⟩ := H
    refine HL_cons rfl ?_
    refine o_call (args := #[.int .i64 (p0.length : Int), .int .i64 1, .int .i64 40]) Try.func105 rfl rfl rfl (impl_inRange.ok sb s no (p0.length : Int) 1 40 (Hp.own hH.bs) _ hu20) ?_
    rintro _ s20 ⟨rfl, hD⟩
    replace hH := hH.back0 hD (Up.refl _ _ _)
    clear hD
    dsimp only [addC, setC, rmC, selC, getC] at hH
    try dsimp only [putL, setL, evL, getL]
    refine HL_cons rfl ?_
    refine o_not rfl ?_
    try dsimp only [putL, setL, evL, getL]
    refine HL_cons rfl ?_
    refine o_move ?_
    try dsimp only [putL, setL, evL, getL]
    rcases Bool.eq_false_or_eq_true (!u20) with hb21 | hb21
    · replace H := iteT hb21 H
      refine HL_skip ?_ ?_
      · exact wantF (j := 4) (b := false) (t := 9) (c := !u20) rfl rfl rfl rfl hb21
      try dsimp only [putL, setL, evL, getL]
      refine HL_skip ?_ ?_
      · exact wantF (j := 4) (b := false) (t := 9) (c := !u20) rfl rfl rfl rfl hb21
      try dsimp only [putL, setL, evL, getL]
      refine HL_cons rfl ?_
      refine o_pickT rfl hb21 ?_
      try dsimp only [putL, setL, evL, getL]
      refine HL_nil ?_
      exact hK15 _ _ ⟨true, H, rfl, hH⟩
    · replace H := iteF hb21 H
      refine HL_want ?_ ?_
      · exact wantT (j := 4) (b := false) (t := 9) (c := !u20) rfl rfl rfl rfl hb21
      refine o_move ?_
      try dsimp only [putL, setL, evL, getL]
      replace H := headE H
      obtain ⟨u22, hu22, H⟩ := H
      refine HL_want ?_ ?_
      · exact wantT (j := 4) (b := false) (t := 9) (c := !u20) rfl rfl rfl rfl hb21
      refine o_call (args := #[.slice A0p p0.length c0p, .func (.func 191) #[] #[]]) Try.func190 rfl rfl rfl (slices_ContainsFunc_impl_Re_impl_Re_impl_GoodRe_1.ok sb s20 no A0p c0p p0 HRp0 (Hp.own hH.bs) _ hu22) ?_
      rintro _ s22 ⟨rfl, hD⟩
      replace hH := hH.back0 hD (Up.refl _ _ _)
      clear hD
      dsimp only [addC, setC, rmC, selC, getC] at hH
      try dsimp only [putL, setL, evL, getL]
      refine HL_cons rfl ?_
      refine o_pickF rfl hb21 ?_
      try dsimp only [putL, setL, evL, getL]
      refine HL_nil ?_
      exact hK15 _ _ ⟨u22, H, rfl, hH⟩
  · rintro l' s23 ⟨x19, H, hl, hH⟩
    generalize getL l' 5 = j5, getL l' 6 = j6, getL l' 7 = j7, getL l' 8 = j8, getL l' 9 = j9, getL l' 10 = j10, getL l' 11 = j11 at hl
    subst hl
    replace H := hG15 _ H
    try dsimp only at H
    rcases Bool.eq_false_or_eq_true x19 with hb24 | hb24
    · replace H := iteT hb24 H
      refine HT_true (congrArg Value.bool hb24) ?_
      refine HT_seq_k ?_
      intro K25 hK25
      refine HT_region ?_
      refine HL_cons rfl ?_
      refine o_assign ?_
      try dsimp only [putL, setL, evL, getL]
      refine HL_nil ?_
      refine hK25 _ _ ?_
      refine HT_ret ?_
      exact hQr _ _ [.bool false] ⟨rfl, trivial⟩ (retH (fun r => impl_GoodRe.post sb s F0 r _ _) (show some _ = some r from H) ⟨rfl, hH⟩)
    · replace H := iteF hb24 H
      refine HT_false (congrArg Value.bool hb24) ?_
      refine HT_skip ?_
      refine hK14 _ _ ?_
      refine HT_seq_k ?_
      intro K26 hK26
      refine HT_region ?_
      refine HL_cons rfl ?_
      refine o_move ?_
      try dsimp only [putL, setL, evL, getL]
      replace H := headE H
      obtain ⟨u27, hu27, H⟩ := H
      refine HL_cons rfl ?_
      refine o_call (args := #[.slice A0p p0.length c0p]) Try.func155 rfl rfl rfl (impl_parts.ok sb s23 no A0p c0p p0 HRp0 (Hp.own hH.bs) _ hu27) ?_
      rintro _ s27 ⟨A28, c28, rfl, hD⟩
      replace hH := hH.back0 hD (Up.refl _ _ _)
      clear hD
      dsimp only [addC, setC, rmC, selC, getC] at hH
      try dsimp only [putL, setL, evL, getL]
      refine HL_cons rfl ?_
      refine o_move ?_
      try dsimp only [putL, setL, evL, getL]
      refine HL_cons rfl ?_
      refine o_extract rfl rfl ?_
      try dsimp only [putL, setL, evL, getL]
      refine HL_cons rfl ?_
      refine o_extract rfl rfl ?_
      try dsimp only [putL, setL, evL, getL]
      refine HL_cons rfl ?_
      refine o_assign ?_
      try dsimp only [putL, setL, evL, getL]
      refine HL_cons rfl ?_
      refine o_assign ?_
      try dsimp only [putL, setL, evL, getL]
      refine HL_nil ?_
      refine hK26 _ _ ?_
      refine HT_seq_k ?_
      intro K29 hK29
      refine HT_region ?_
      refine HL_cons rfl ?_
      refine o_move ?_
      try dsimp only [putL, setL, evL, getL]
      refine HL_cons rfl ?_
      refine o_assign ?_
      try dsimp only [putL, setL, evL, getL]
      refine HL_nil ?_
      refine hK29 _ _ ?_
      refine HT_ret ?_
      exact hQr _ _ [.bool u27.2] ⟨rfl, trivial⟩ (retH (fun r => impl_GoodRe.post sb s F0 r _ _) (show some _ = some r from H) ⟨rfl, hH.sel [] (by decide)⟩)
def impl_isPlain_1.f (p0_0 : Int) (p0_1 : List (Int)) : Option Bool := if (p0_0 == 5) = true then (some true) else (some (p0_0 == 7))
def impl_isPlain_1.post (sb s : St) (F0 : Fp) (r : Bool) : Value → St → Prop := fun v s' => v = .bool r ∧ Hp sb s F0 s' []
set_option maxRecDepth 100000 in
set_option maxHeartbeats 4000000 in
theorem impl_isPlain_1.ok (sb s : St) (F0 : Fp) (p0_0 : Int) (A0_1p : Option Addr) (c0_1p : Nat) (p0_1 : List (Int)) (HRp0_1 : Rd KI sb A0_1p c0_1p p0_1) (hH : Hp sb s F0 s []) (r : Bool) (H : impl_isPlain_1.f p0_0 p0_1 = some r) : GCall Try.prog 194 #[.agg #[.int .i64 p0_0, .slice A0_1p p0_1.length c0_1p]] s (impl_isPlain_1.post sb s F0 r) := by
  refine GCall_ofk [.tmp 2] [.agg #[.int .i64 p0_0, .slice A0_1p p0_1.length c0_1p], undef, undef, undef, undef, undef, undef, undef, undef, undef, undef] Try.func194 rfl rfl rfl ?_
  intro w Q hQr hQn hQp
  replace H := topE H
  unfold impl_isPlain_1.f at H
  refine HT_seq_k ?_
  intro K1 hK1
  refine HT_region ?_
  refine HL_cons rfl ?_
  refine o_boxH hH rfl ?_
  intro b2 s2 hH' hG
  replace hH : Hp sb s F0 s2 [Ck.ov b2 [.int .i64 p0_0, .slice A0_1p p0_1.length c0_1p] 139] := hH'
  clear hH' hG
  try dsimp only [putL, setL, evL, getL]
  refine HL_cons rfl ?_
  refine o_assign ?_
  try dsimp only [putL, setL, evL, getL]
  refine HL_nil ?_
  refine hK1 _ _ ?_
  refine HT_seq_k ?_
  intro K3 hK3
  refine HT_region ?_
  refine HL_cons rfl ?_
  refine o_faddr' (ft := 3) (off := 0) rfl Try.underlying139 rfl tI3 (by decide) ?_
  try dsimp only [putL, setL, evL, getL]
  refine HL_cons rfl ?_
  refine o_load' rfl Try.underlying3 rfl (hH.hasv 0 rfl rfl) ?_
  try dsimp only [putL, setL, evL, getL]
  refine HL_cons rfl ?_
  refine o_bin rfl rfl rfl ?_
  try dsimp only [putL, setL, evL, getL]
  refine HL_cons rfl ?_
  refine o_move ?_
  try dsimp only [putL, setL, evL, getL]
  rcases Bool.eq_false_or_eq_true (p0_0 == 5) with hb4 | hb4
  · replace H := iteT hb4 H
    refine HL_skip ?_ ?_
    · exact wantF (j := 3) (b := false) (t := 6) (c := p0_0 == 5) rfl rfl rfl rfl hb4
    try dsimp only [putL, setL, evL, getL]
    refine HL_skip ?_ ?_
    · exact wantF (j := 3) (b := false) (t := 6) (c := p0_0 == 5) rfl rfl rfl rfl hb4
    try dsimp only [putL, setL, evL, getL]
    refine HL_skip ?_ ?_
    · exact wantF (j := 3) (b := false) (t := 6) (c := p0_0 == 5) rfl rfl rfl rfl hb4
    try dsimp only [putL, setL, evL, getL]
    refine HL_cons rfl ?_
    refine o_pickT rfl hb4 ?_
    try dsimp only [putL, setL, evL, getL]
    refine HL_cons rfl ?_
    refine o_assign ?_
    try dsimp only [putL, setL, evL, getL]
    refine HL_nil ?_
    refine hK3 _ _ ?_
    refine HT_ret ?_
    exact hQr _ _ [.bool true] ⟨rfl, trivial⟩ (retH (fun r => impl_isPlain_1.post sb s F0 r _ _) (show some _ = some r from H) ⟨rfl, hH.sel [] (by decide)⟩)
  · replace H := iteF hb4 H
    refine HL_want ?_ ?_
    · exact wantT (j := 3) (b := false) (t := 6) (c := p0_0 == 5) rfl rfl rfl rfl hb4
    refine o_faddr' (ft := 3) (off := 0) rfl Try.underlying139 rfl tI3 (by decide) ?_
    try dsimp only [putL, setL, evL, getL]
    refine HL_want ?_ ?_
    · exact wantT (j := 3) (b := false) (t := 6) (c := p0_0 == 5) rfl rfl rfl rfl hb4
    refine o_load' rfl Try.underlying3 rfl (hH.hasv 0 rfl rfl) ?_
    try dsimp only [putL, setL, evL, getL]
    refine HL_want ?_ ?_
    · exact wantT (j := 3) (b := false) (t := 6) (c := p0_0 == 5) rfl rfl rfl rfl hb4
    refine o_bin rfl rfl rfl ?_
    try dsimp only [putL, setL, evL, getL]
    refine HL_cons rfl ?_
    refine o_pickF rfl hb4 ?_
    try dsimp only [putL, setL, evL, getL]
    refine HL_cons rfl ?_
    refine o_assign ?_
    try dsimp only [putL, setL, evL, getL]
    refine HL_nil ?_
    refine hK3 _ _ ?_
    refine HT_ret ?_
    exact hQr _ _ [.bool (p0_0 == 7)] ⟨rfl, trivial⟩ (retH (fun r => impl_isPlain_1.post sb s F0 r _ _) (show some _ = some r from H) ⟨rfl, hH.sel [] (by decide)⟩)
def slices_IndexFunc_impl_Re_impl_Re_impl_isPlain_1.l1 (p0 : List ((Int) × (List (Int)))) : Nat → Int → Option (Lo Unit Int)
  | 0, _ => none
  | kf + 1, x52 => if (decide (x52 < (p0.length : Int))) = true then ((rd? p0 x52).bind fun u72 => (impl_isPlain_1.f u72.1 u72.2).bind fun u74 => if u74 = true then ((some x52).bind fun z => some (Lo.ret z)) else (slices_IndexFunc_impl_Re_impl_Re_impl_isPlain_1.l1 p0 kf (IntKind.i64.wrap (x52 + 1)))) else (some (Lo.go ()))
def slices_IndexFunc_impl_Re_impl_Re_impl_isPlain_1.f (p0 : List ((Int) × (List (Int)))) : Option Int := (slices_IndexFunc_impl_Re_impl_Re_impl_isPlain_1.l1 p0 ((((p0.length : Int)) - (0)).toNat + 2) 0).bind fun (o : Lo Unit Int) => match o with | .go () => (some (-1)) | .ret z => some z
def slices_IndexFunc_impl_Re_impl_Re_impl_isPlain_1.post (sb s : St) (F0 : Fp) (r : Int) : Value → St → Prop := fun v s' => v = .int .i64 r ∧ Hp sb s F0 s' []
set_option maxRecDepth 100000 in
set_option maxHeartbeats 4000000 in
theorem slices_IndexFunc_impl_Re_impl_Re_impl_isPlain_1.ok (sb s : St) (F0 : Fp) (A0p : Option Addr) (c0p : Nat) (p0 : List ((Int) × (List (Int)))) (HRp0 : Rd KS139 sb A0p c0p p0) (hH : Hp sb s F0 s []) (r : Int) (H : slices_IndexFunc_impl_Re_impl_Re_impl_isPlain_1.f p0 = some r) : GCall Try.prog 221 #[.slice A0p p0.length c0p, .func (.func 194) #[] #[]] s (slices_IndexFunc_impl_Re_impl_Re_impl_isPlain_1.post sb s F0 r) := by
  refine GCall_ofk [.tmp 4] [.slice A0p p0.length c0p, .func (.func 194) #[] #[], undef, undef, undef, undef, undef, undef, undef, undef, undef, undef, undef, undef, undef, undef, undef, undef, undef] Try.func221 rfl rfl rfl ?_
  intro w Q hQr hQn hQp
  replace H := topE H
  unfold slices_IndexFunc_impl_Re_impl_Re_impl_isPlain_1.f at H
  refine HT_seq_k ?_
  intro K1 hK1
  refine HT_region ?_
  refine HL_cons rfl ?_
  refine o_assign ?_
  try dsimp only [putL, setL, evL, getL]
  refine HL_nil ?_
  refine hK1 _ _ ?_
  refine HT_seq_k ?_
  intro K2 hK2
  refine HT_seq_k ?_
  intro K3 hK3
  refine HT_region ?_
  refine HL_cons rfl ?_
  refine o_move ?_
  try dsimp only [putL, setL, evL, getL]
  refine HL_cons rfl ?_
  refine o_len rfl Try.underlying57 ?_
  try dsimp only [putL, setL, evL, getL]
  refine HL_cons rfl ?_
  refine o_move ?_
  try dsimp only [putL, setL, evL, getL]
  refine HL_nil ?_
  refine hK3 _ _ ?_
  refine joinH H fun G4 hG4 H => ?_
  refine HT_toK (fun l' s' => G4 (.go ()) = some r ∧ l' = [.slice A0p p0.length c0p, .func (.func 194) #[] #[], undef, undef, getL l' 4, getL l' 5, .slice A0p p0.length c0p, .int .i64 (p0.length : Int), getL l' 8, getL l' 9, getL l' 10, getL l' 11, getL l' 12, getL l' 13, getL l' 14, getL l' 15, getL l' 16, getL l' 17, getL l' 18] ∧ Hp sb s F0 s' []) ?_ ?_
  · intro K4 hK4
    refine HT_block ?_
    refine HT_loopK (fun kf l' s' => ∃ (x52 : Int), (slices_IndexFunc_impl_Re_impl_Re_impl_isPlain_1.l1 p0 kf x52).bind G4 = some r ∧ l' = [.slice A0p p0.length c0p, .func (.func 194) #[] #[], undef, undef, getL l' 4, getL l' 5, .slice A0p p0.length c0p, .int .i64 (p0.length : Int), .int .i64 x52, getL l' 9, getL l' 10, getL l' 11, getL l' 12, getL l' 13, getL l' 14, getL l' 15, getL l' 16, getL l' 17, getL l' 18] ∧ Hp sb s F0 s' []) ((((p0.length : Int)) - (0)).toNat + 2) ⟨0, H, rfl, hH⟩ ?_
    rintro kf l' s65 ⟨x52, H, hl, hH⟩ K65 hK65
    generalize getL l' 4 = j4, getL l' 5 = j5, getL l' 9 = j9, getL l' 10 = j10, getL l' 11 = j11, getL l' 12 = j12, getL l' 13 = j13, getL l' 14 = j14, getL l' 15 = j15, getL l' 16 = j16, getL l' 17 = j17, getL l' 18 = j18 at hl
    subst hl
    cases kf with
    | zero => simp [slices_IndexFunc_impl_Re_impl_Re_impl_isPlain_1.l1] at H
    | succ kf =>
      rw [slices_IndexFunc_impl_Re_impl_Re_impl_isPlain_1.l1] at H
      refine HT_seq_k ?_
      intro K66 hK66
      refine HT_region ?_
      refine HL_cons rfl ?_
      refine o_bin rfl rfl rfl ?_
      try dsimp only [putL, setL, evL, getL]
      refine HL_nil ?_
      refine hK66 _ _ ?_
      refine HT_seq_k ?_
      intro K67 hK67
      rcases Bool.eq_false_or_eq_true (decide (x52 < (p0.length : Int))) with hb68 | hb68
      · replace H := iteT hb68 H
        refine HT_true (congrArg Value.bool hb68) ?_
        refine HT_skip ?_
        refine hK67 _ _ ?_
        refine HT_seq_k ?_
        intro K69 hK69
        refine HT_block ?_
        refine HT_seq_k ?_
        intro K70 hK70
        refine HT_region ?_
        refine HL_cons rfl ?_
        refine o_move ?_
        try dsimp only [putL, setL, evL, getL]
        refine HL_cons rfl ?_
        refine o_assign ?_
        try dsimp only [putL, setL, evL, getL]
        refine HL_nil ?_
        refine hK70 _ _ ?_
        refine HT_seq_k ?_
        intro K71 hK71
        refine HT_region ?_
        refine HL_cons rfl ?_
        refine o_move ?_
        try dsimp only [putL, setL, evL, getL]
        refine HL_cons rfl ?_
        refine o_move ?_
        try dsimp only [putL, setL, evL, getL]
        refine HL_cons rfl ?_
        refine o_move ?_
        try dsimp only [putL, setL, evL, getL]
        replace H := headE H
        obtain ⟨u72, hu72, H⟩ := H
        obtain ⟨b72, o72, cs72, hr72, hh72, hel72⟩ := Rd.elb HRp0 hu72
        obtain ⟨_, _, rfl, rfl, ⟨A73, c73, rfl, D73⟩⟩ := hr72
        refine HL_cons rfl ?_
        refine hel72 s65 rfl rfl Try.underlying57 tI139 ?_
        try dsimp only [putL, setL, evL, getL]
        refine HL_cons rfl ?_
        refine o_loads' [.int .i64 u72.1, .slice A73 u72.2.length c73] rfl Try.underlying139 rfl tI139 rfl (fun j v hj => (hh72 hH.bs.mono) j v hj) ?_
        try dsimp only [putL, setL, evL, getL]
        replace H := headE H
        obtain ⟨u74, hu74, H⟩ := H
        refine HL_cons rfl ?_
        refine o_callv (first := #[]) (cap := #[]) (args := #[.agg #[.int .i64 u72.1, .slice A73 u72.2.length c73]]) rfl Try.func194 rfl rfl [.agg #[.int .i64 u72.1, .slice A73 u72.2.length c73]] rfl (by simp) (impl_isPlain_1.ok sb s65 no u72.1 A73 c73 u72.2 D73 (Hp.own hH.bs) _ hu74) ?_
        rintro _ s74 ⟨rfl, hD⟩
        replace hH := hH.back0 hD (Up.refl _ _ _)
        clear hD
        dsimp only [addC, setC, rmC, selC, getC] at hH
        try dsimp only [putL, setL, evL, getL]
        refine HL_nil ?_
        refine hK71 _ _ ?_
        rcases Bool.eq_false_or_eq_true u74 with hb75 | hb75
        · replace H := iteT hb75 H
          refine HT_true (congrArg Value.bool hb75) ?_
          refine HT_seq_k ?_
          intro K76 hK76
          refine HT_region ?_
          refine HL_cons rfl ?_
          refine o_move ?_
          try dsimp only [putL, setL, evL, getL]
          refine HL_cons rfl ?_
          refine o_assign ?_
          try dsimp only [putL, setL, evL, getL]
          refine HL_nil ?_
          refine hK76 _ _ ?_
          refine HT_ret ?_
          replace H := escH (fun z hz => hG4 _ hz) H
          exact hQr _ _ [.int .i64 x52] ⟨rfl, trivial⟩ (retH (fun r => slices_IndexFunc_impl_Re_impl_Re_impl_isPlain_1.post sb s F0 r _ _) (show some _ = some r from H) ⟨rfl, hH⟩)
        · replace H := iteF hb75 H
          refine HT_false (congrArg Value.bool hb75) ?_
          refine HT_skip ?_
          refine hK69 _ _ ?_
          refine HT_region ?_
          refine HL_cons rfl ?_
          refine o_bin rfl rfl rfl ?_
          try dsimp only [putL, setL, evL, getL]
          refine HL_cons rfl ?_
          refine o_move ?_
          try dsimp only [putL, setL, evL, getL]
          refine HL_nil ?_
          exact hK65 _ _ ⟨kf, Nat.lt_succ_self kf, IntKind.i64.wrap (x52 + 1), H, rfl, hH⟩
      · replace H := iteF hb68 H
        refine HT_false (congrArg Value.bool hb68) ?_
        refine HT_exit ?_
        exact hK4 _ _ ⟨H, rfl, hH⟩
  · rintro l' s77 ⟨H, hl, hH⟩
    generalize getL l' 4 = j4, getL l' 5 = j5, getL l' 8 = j8, getL l' 9 = j9, getL l' 10 = j10, getL l' 11 = j11, getL l' 12 = j12, getL l' 13 = j13, getL l' 14 = j14, getL l' 15 = j15, getL l' 16 = j16, getL l' 17 = j17, getL l' 18 = j18 at hl
    subst hl
    replace H := hG4 _ H
    try dsimp only at H
    refine hK2 _ _ ?_
    refine HT_seq_k ?_
    intro K78 hK78
    refine HT_region ?_
    refine HL_cons rfl ?_
    refine o_assign ?_
    try dsimp only [putL, setL, evL, getL]
    refine HL_nil ?_
    refine hK78 _ _ ?_
    refine HT_ret ?_
    exact hQr _ _ [.int .i64 (-1)] ⟨rfl, trivial⟩ (retH (fun r => slices_IndexFunc_impl_Re_impl_Re_impl_isPlain_1.post sb s F0 r _ _) (show some _ = some r from H) ⟨rfl, hH⟩)
def slices_ContainsFunc_impl_Re_impl_Re_impl_isPlain_1.f (p0 : List ((Int) × (List (Int)))) : Option Bool := (slices_IndexFunc_impl_Re_impl_Re_impl_isPlain_1.f p0).bind fun u3 => some (decide (u3 ≥ 0))
def slices_ContainsFunc_impl_Re_impl_Re_impl_isPlain_1.post (sb s : St) (F0 : Fp) (r : Bool) : Value → St → Prop := fun v s' => v = .bool r ∧ Hp sb s F0 s' []
set_option maxRecDepth 100000 in
set_option maxHeartbeats 4000000 in
theorem slices_ContainsFunc_impl_Re_impl_Re_impl_isPlain_1.ok (sb s : St) (F0 : Fp) (A0p : Option Addr) (c0p : Nat) (p0 : List ((Int) × (List (Int)))) (HRp0 : Rd KS139 sb A0p c0p p0) (hH : Hp sb s F0 s []) (r : Bool) (H : slices_ContainsFunc_impl_Re_impl_Re_impl_isPlain_1.f p0 = some r) : GCall Try.prog 190 #[.slice A0p p0.length c0p, .func (.func 194) #[] #[]] s (slices_ContainsFunc_impl_Re_impl_Re_impl_isPlain_1.post sb s F0 r) := by
  refine GCall_ofk [.tmp 4] [.slice A0p p0.length c0p, .func (.func 194) #[] #[], undef, undef, undef, undef, undef, undef, undef] Try.func190 rfl rfl rfl ?_
  intro w Q hQr hQn hQp
  replace H := topE H
  unfold slices_ContainsFunc_impl_Re_impl_Re_impl_isPlain_1.f at H
  refine HT_seq_k ?_
  intro K1 hK1
  refine HT_region ?_
  refine HL_cons rfl ?_
  refine o_assign ?_
  try dsimp only [putL, setL, evL, getL]
  refine HL_nil ?_
  refine hK1 _ _ ?_
  refine HT_seq_k ?_
  intro K2 hK2
  refine HT_region ?_
  refine HL_cons rfl ?_
  refine o_move ?_
  try dsimp only [putL, setL, evL, getL]
  refine HL_cons rfl ?_
  refine o_move ?_
  try dsimp only [putL, setL, evL, getL]
  replace H := headE H
  obtain ⟨u3, hu3, H⟩ := H
  refine HL_cons rfl ?_
  refine o_call (args := #[.slice A0p p0.length c0p, .func (.func 194) #[] #[]]) Try.func221 rfl rfl rfl (slices_IndexFunc_impl_Re_impl_Re_impl_isPlain_1.ok sb s no A0p c0p p0 HRp0 (Hp.own hH.bs) _ hu3) ?_
  rintro _ s3 ⟨rfl, hD⟩
  replace hH := hH.back0 hD (Up.refl _ _ _)
  clear hD
  dsimp only [addC, setC, rmC, selC, getC] at hH
  try dsimp only [putL, setL, evL, getL]
  refine HL_cons rfl ?_
  refine o_bin rfl rfl rfl ?_
  try dsimp only [putL, setL, evL, getL]
  refine HL_cons rfl ?_
  refine o_assign ?_
  try dsimp only [putL, setL, evL, getL]
  refine HL_nil ?_
  refine hK2 _ _ ?_
  refine HT_ret ?_
  exact hQr _ _ [.bool (decide (u3 ≥ 0))] ⟨rfl, trivial⟩ (retH (fun r => slices_ContainsFunc_impl_Re_impl_Re_impl_isPlain_1.post sb s F0 r _ _) (show some _ = some r from H) ⟨rfl, hH⟩)
def impl_isPlain.f (p0 : List ((Int) × (List (Int)))) : Option Bool := (slices_ContainsFunc_impl_Re_impl_Re_impl_isPlain_1.f p0).bind fun u3 => some (!u3)
def impl_isPlain.post (sb s : St) (F0 : Fp) (r : Bool) : Value → St → Prop := fun v s' => v = .bool r ∧ Hp sb s F0 s' []
set_option maxRecDepth 100000 in
set_option maxHeartbeats 4000000 in
theorem impl_isPlain.ok (sb s : St) (F0 : Fp) (A0p : Option Addr) (c0p : Nat) (p0 : List ((Int) × (List (Int)))) (HRp0 : Rd KS139 sb A0p c0p p0) (hH : Hp sb s F0 s []) (r : Bool) (H : impl_isPlain.f p0 = some r) : GCall Try.prog 132 #[.slice A0p p0.length c0p] s (impl_isPlain.post sb s F0 r) := by
  refine GCall_ofk [.tmp 2] [.slice A0p p0.length c0p, undef, undef, undef, undef, undef] Try.func132 rfl rfl rfl ?_
  intro w Q hQr hQn hQp
  replace H := topE H
  unfold impl_isPlain.f at H
  refine HT_seq_k ?_
  intro K1 hK1
  refine HT_region ?_
  refine HL_cons rfl ?_
  refine o_assign ?_
  try dsimp only [putL, setL, evL, getL]
  refine HL_nil ?_
  refine hK1 _ _ ?_
  refine HT_seq_k ?_
  intro K2 hK2
  refine HT_region ?_
  refine HL_cons rfl ?_
  refine o_move ?_
  try dsimp only [putL, setL, evL, getL]
  replace H := headE H
  obtain ⟨u3, hu3, H⟩ := H
  refine HL_cons rfl ?_
  refine o_call (args := #[.slice A0p p0.length c0p, .func (.func 194) #[] #[]]) Try.func190 rfl rfl rfl (slices_ContainsFunc_impl_Re_impl_Re_impl_isPlain_1.ok sb s no A0p c0p p0 HRp0 (Hp.own hH.bs) _ hu3) ?_
  rintro _ s3 ⟨rfl, hD⟩
  replace hH := hH.back0 hD (Up.refl _ _ _)
  clear hD
  dsimp only [addC, setC, rmC, selC, getC] at hH
  try dsimp only [putL, setL, evL, getL]
  refine HL_cons rfl ?_
  refine o_not rfl ?_
  try dsimp only [putL, setL, evL, getL]
  refine HL_cons rfl ?_
  refine o_assign ?_
  try dsimp only [putL, setL, evL, getL]
  refine HL_nil ?_
  refine hK2 _ _ ?_
  refine HT_ret ?_
  exact hQr _ _ [.bool (!u3)] ⟨rfl, trivial⟩ (retH (fun r => impl_isPlain.post sb s F0 r _ _) (show some _ = some r from H) ⟨rfl, hH⟩)
def impl_isPlace.f (p0 : Int) (p1 : Int) : Option Bool := (impl_inRange.f p0 0 (IntKind.i64.wrap (p1 - 1))).bind fun u3 => some u3
def impl_isPlace.post (sb s : St) (F0 : Fp) (r : Bool) : Value → St → Prop := fun v s' => v = .bool r ∧ Hp sb s F0 s' []
set_option maxRecDepth 100000 in
set_option maxHeartbeats 4000000 in
theorem impl_isPlace.ok (sb s : St) (F0 : Fp) (p0 : Int) (p1 : Int) (hH : Hp sb s F0 s []) (r : Bool) (H : impl_isPlace.f p0 p1 = some r) : GCall Try.prog 133 #[.int .i64 p0, .int .i64 p1] s (impl_isPlace.post sb s F0 r) := by
  refine GCall_ofk [.tmp 4] [.int .i64 p0, .int .i64 p1, undef, undef, undef, undef, undef, undef, undef] Try.func133 rfl rfl rfl ?_
  intro w Q hQr hQn hQp
  replace H := topE H
  unfold impl_isPlace.f at H
  refine HT_seq_k ?_
  intro K1 hK1
  refine HT_region ?_
  refine HL_cons rfl ?_
  refine o_assign ?_
  try dsimp only [putL, setL, evL, getL]
  refine HL_nil ?_
  refine hK1 _ _ ?_
  refine HT_seq_k ?_
  intro K2 hK2
  refine HT_region ?_
  refine HL_cons rfl ?_
  refine o_move ?_
  try dsimp only [putL, setL, evL, getL]
  refine HL_cons rfl ?_
  refine o_move ?_
  try dsimp only [putL, setL, evL, getL]
  refine HL_cons rfl ?_
  refine o_bin rfl rfl rfl ?_
  try dsimp only [putL, setL, evL, getL]
  replace H := headE H
  obtain ⟨u3, hu3, H⟩ := H
  refine HL_cons rfl ?_
  refine o_call (args := #[.int .i64 p0, .int .i64 0, .int .i64 (IntKind.i64.wrap (p1 - 1))]) Try.func105 rfl rfl rfl (impl_inRange.ok sb s no p0 0 (IntKind.i64.wrap (p1 - 1)) (Hp.own hH.bs) _ hu3) ?_
  rintro _ s3 ⟨rfl, hD⟩
  replace hH := hH.back0 hD (Up.refl _ _ _)
  clear hD
  dsimp only [addC, setC, rmC, selC, getC] at hH
  try dsimp only [putL, setL, evL, getL]
  refine HL_cons rfl ?_
  refine o_assign ?_
  try dsimp only [putL, setL, evL, getL]
  refine HL_nil ?_
  refine hK2 _ _ ?_
  refine HT_ret ?_
  exact hQr _ _ [.bool u3] ⟨rfl, trivial⟩ (retH (fun r => impl_isPlace.post sb s F0 r _ _) (show some _ = some r from H) ⟨rfl, hH⟩)
def slices_Clone_impl_Span_impl_Span.f (p0 : List ((Int) × (Int) × (Int))) : Option (List ((Int) × (Int) × (Int))) := app? 5864062014805 [] p0
def slices_Clone_impl_Span_impl_Span.post (sb s : St) (F0 : Fp) (r : List ((Int) × (Int) × (Int))) : Value → St → Prop := fun v s' => ∃ (A0 : Option Addr) (c0 : Nat), v = .slice A0 r.length c0 ∧ Hp sb s F0 s' [Ck.ol OS138 138 A0 c0 r]
set_option maxRecDepth 100000 in
set_option maxHeartbeats 4000000 in
theorem slices_Clone_impl_Span_impl_Span.ok (sb s : St) (F0 : Fp) (A0p : Option Addr) (c0p : Nat) (p0 : List ((Int) × (Int) × (Int))) (HRp0 : Rd KS138 sb A0p c0p p0) (hH : Hp sb s F0 s []) (r : List ((Int) × (Int) × (Int))) (H : slices_Clone_impl_Span_impl_Span.f p0 = some r) : GCall Try.prog 135 #[.slice A0p p0.length c0p] s (slices_Clone_impl_Span_impl_Span.post sb s F0 r) := by
  refine GCall_ofk [.tmp 2] [.slice A0p p0.length c0p, undef, undef, undef, undef, undef, undef, undef] Try.func135 rfl rfl rfl ?_
  intro w Q hQr hQn hQp
  unfold slices_Clone_impl_Span_impl_Span.f at H
  refine HT_seq_k ?_
  intro K1 hK1
  refine HT_region ?_
  refine HL_cons rfl ?_
  refine o_assign ?_
  refine HL_nil ?_
  refine hK1 _ _ ?_
  refine HT_seq_k ?_
  intro K2 hK2
  refine HT_seq_k ?_
  intro K3 hK3
  refine HT_region ?_
  refine HL_cons rfl ?_
  refine o_move ?_
  dsimp only [putL, setL, evL, getL]
  refine HL_cons rfl ?_
  refine o_eqN rfl rfl Try.underlying54 ?_
  dsimp only [putL, setL, evL, getL]
  refine HL_nil ?_
  refine hK3 _ _ ?_
  cases A0p with
  | none =>
    have hp : p0 = [] := by
      by_cases h : p0 = []
      · exact h
      · obtain ⟨b, o, hA, _⟩ := HRp0.2.2 h
        cases hA
    subst hp
    obtain ⟨_, rfl⟩ := app?_some H
    refine HT_true rfl ?_
    refine HT_seq_k ?_
    intro K4 hK4
    refine HT_region ?_
    refine HL_cons rfl ?_
    refine o_assign ?_
    dsimp only [putL, setL, evL, getL]
    refine HL_nil ?_
    refine hK4 _ _ ?_
    refine HT_ret ?_
    exact hQr _ _ [.slice none 0 0] ⟨rfl, trivial⟩ ⟨none, 0, rfl, hH.nil (K := KS138) OS138 138⟩
  | some a =>
    refine HT_false rfl ?_
    refine HT_skip ?_
    refine hK2 _ _ ?_
    refine HT_seq_k ?_
    intro K4 hK4
    refine HT_region ?_
    refine HL_cons rfl ?_
    refine o_lit0H (α := (Int) × (Int) × (Int)) (K := KS138) (O := OS138) hH Try.underlying54 tI138 ?_
    intro A1 s1 hH hG
    dsimp only [putL, setL, evL, getL]
    refine HL_cons rfl ?_
    refine o_move ?_
    dsimp only [putL, setL, evL, getL]
    refine HL_cons rfl ?_
    refine o_appF (n := 5864062014805) (A := A1) (c := 0) (xs := ([] : List ((Int) × (Int) × (Int)))) (ys := p0) (B := some a) (c2 := c0p) hH 0 rfl rfl rfl rfl Try.underlying54 tI138 rfl (by decide) (by decide) (by decide) (Src.flat (HRp0.mono hH.bs.mono)) H ?_
    intro A2 c2 s2 hH
    dsimp only [putL, setL, evL, getL]
    refine HL_cons rfl ?_
    refine o_assign ?_
    dsimp only [putL, setL, evL, getL]
    refine HL_nil ?_
    refine hK4 _ _ ?_
    refine HT_ret ?_
    exact hQr _ _ [.slice A2 r.length c2] ⟨rfl, trivial⟩ ⟨A2, c2, rfl, hH⟩
def impl_SpansOf_1.f (p0_0 : Int) (p0_1 : Int) (p0_2 : Int) (pf0_0 : Int) : Option Bool := some (p0_0 != pf0_0)
def impl_SpansOf_1.post (sb s : St) (F0 : Fp) (bpf0 : Nat) (pf0_0 : Int) (r : Bool) : Value → St → Prop := fun v s' => v = .bool r ∧ Hp sb s F0 s' [Ck.ov bpf0 [.int .i64 pf0_0] 3]
set_option maxRecDepth 100000 in
set_option maxHeartbeats 4000000 in
theorem impl_SpansOf_1.ok (sb s : St) (F0 : Fp) (p0_0 : Int) (p0_1 : Int) (p0_2 : Int) (bpf0 : Nat) (pf0_0 : Int) (hH : Hp sb s F0 s [Ck.ov bpf0 [.int .i64 pf0_0] 3]) (r : Bool) (H : impl_SpansOf_1.f p0_0 p0_1 p0_2 pf0_0 = some r) : GCall Try.prog 136 #[.agg #[.int .i64 p0_0, .int .i64 p0_1, .int .i64 p0_2], .pointer (some ⟨bpf0, 0, none⟩)] s (impl_SpansOf_1.post sb s F0 bpf0 pf0_0 r) := by
  refine GCall_ofk [.tmp 3] [.agg #[.int .i64 p0_0, .int .i64 p0_1, .int .i64 p0_2], .pointer (some ⟨bpf0, 0, none⟩), undef, undef, undef, undef, undef, undef] Try.func136 rfl rfl rfl ?_
  intro w Q hQr hQn hQp
  replace H := topE H
  unfold impl_SpansOf_1.f at H
  refine HT_seq_k ?_
  intro K1 hK1
  refine HT_region ?_
  refine HL_cons rfl ?_
  refine o_boxH hH rfl ?_
  intro b2 s2 hH' hG
  replace hH : Hp sb s F0 s2 [Ck.ov bpf0 [.int .i64 pf0_0] 3, Ck.ov b2 [.int .i64 p0_0, .int .i64 p0_1, .int .i64 p0_2] 138] := hH'
  clear hH' hG
  try dsimp only [putL, setL, evL, getL]
  refine HL_cons rfl ?_
  refine o_assign ?_
  try dsimp only [putL, setL, evL, getL]
  refine HL_nil ?_
  refine hK1 _ _ ?_
  refine HT_seq_k ?_
  intro K3 hK3
  refine HT_region ?_
  refine HL_cons rfl ?_
  refine o_faddr' (ft := 3) (off := 0) rfl Try.underlying138 rfl tI3 (by decide) ?_
  try dsimp only [putL, setL, evL, getL]
  refine HL_cons rfl ?_
  refine o_load' rfl Try.underlying3 rfl (hH.hasv 1 rfl rfl) ?_
  try dsimp only [putL, setL, evL, getL]
  refine HL_cons rfl ?_
  refine o_load' rfl Try.underlying3 rfl (hH.hasv 0 rfl rfl) ?_
  try dsimp only [putL, setL, evL, getL]
  refine HL_cons rfl ?_
  refine o_bin rfl rfl rfl ?_
  try dsimp only [putL, setL, evL, getL]
  refine HL_cons rfl ?_
  refine o_assign ?_
  try dsimp only [putL, setL, evL, getL]
  refine HL_nil ?_
  refine hK3 _ _ ?_
  refine HT_ret ?_
  exact hQr _ _ [.bool (p0_0 != pf0_0)] ⟨rfl, trivial⟩ (retH (fun r => impl_SpansOf_1.post sb s F0 bpf0 pf0_0 r _ _) (show some _ = some r from H) ⟨rfl, hH.sel [0] (by decide)⟩)
def slices_IndexFunc_impl_Span_impl_Span_impl_SpansOf_1.l1 (p0 : List ((Int) × (Int) × (Int))) (p1c0_0 : Int) : Nat → Int → Option (Lo Unit Int)
  | 0, _ => none
  | kf + 1, x48 => if (decide (x48 < (p0.length : Int))) = true then ((rd? p0 x48).bind fun u67 => (impl_SpansOf_1.f u67.1 u67.2.1 u67.2.2 p1c0_0).bind fun u68 => if u68 = true then ((some x48).bind fun z => some (Lo.ret z)) else (slices_IndexFunc_impl_Span_impl_Span_impl_SpansOf_1.l1 p0 p1c0_0 kf (IntKind.i64.wrap (x48 + 1)))) else (some (Lo.go ()))
def slices_IndexFunc_impl_Span_impl_Span_impl_SpansOf_1.f (p0 : List ((Int) × (Int) × (Int))) (p1c0_0 : Int) : Option Int := (slices_IndexFunc_impl_Span_impl_Span_impl_SpansOf_1.l1 p0 p1c0_0 ((((p0.length : Int)) - (0)).toNat + 2) 0).bind fun (o : Lo Unit Int) => match o with | .go () => (some (-1)) | .ret z => some z
def slices_IndexFunc_impl_Span_impl_Span_impl_SpansOf_1.post (sb s : St) (F0 : Fp) (bp1c0 : Nat) (p1c0_0 : Int) (r : Int) : Value → St → Prop := fun v s' => v = .int .i64 r ∧ Hp sb s F0 s' [Ck.ov bp1c0 [.int .i64 p1c0_0] 3]
set_option maxRecDepth 100000 in
set_option maxHeartbeats 4000000 in
theorem slices_IndexFunc_impl_Span_impl_Span_impl_SpansOf_1.ok (sb s : St) (F0 : Fp) (A0p : Option Addr) (c0p : Nat) (p0 : List ((Int) × (Int) × (Int))) (bp1c0 : Nat) (p1c0_0 : Int) (HRp0 : Rd KS138 sb A0p c0p p0) (hH : Hp sb s F0 s [Ck.ov bp1c0 [.int .i64 p1c0_0] 3]) (r : Int) (H : slices_IndexFunc_impl_Span_impl_Span_impl_SpansOf_1.f p0 p1c0_0 = some r) : GCall Try.prog 195 #[.slice A0p p0.length c0p, .func (.func 136) #[] #[.pointer (some ⟨bp1c0, 0, none⟩)]] s (slices_IndexFunc_impl_Span_impl_Span_impl_SpansOf_1.post sb s F0 bp1c0 p1c0_0 r) := by
  refine GCall_ofk [.tmp 4] [.slice A0p p0.length c0p, .func (.func 136) #[] #[.pointer (some ⟨bp1c0, 0, none⟩)], undef, undef, undef, undef, undef, undef, undef, undef, undef, undef, undef, undef, undef, undef, undef, undef, undef] Try.func195 rfl rfl rfl ?_
  intro w Q hQr hQn hQp
  replace H := topE H
  unfold slices_IndexFunc_impl_Span_impl_Span_impl_SpansOf_1.f at H
  refine HT_seq_k ?_
  intro K1 hK1
  refine HT_region ?_
  refine HL_cons rfl ?_
  refine o_assign ?_
  try dsimp only [putL, setL, evL, getL]
  refine HL_nil ?_
  refine hK1 _ _ ?_
  refine HT_seq_k ?_
  intro K2 hK2
  refine HT_seq_k ?_
  intro K3 hK3
  refine HT_region ?_
  refine HL_cons rfl ?_
  refine o_move ?_
  try dsimp only [putL, setL, evL, getL]
  refine HL_cons rfl ?_
  refine o_len rfl Try.underlying54 ?_
  try dsimp only [putL, setL, evL, getL]
  refine HL_cons rfl ?_
  refine o_move ?_
  try dsimp only [putL, setL, evL, getL]
  refine HL_nil ?_
  refine hK3 _ _ ?_
  refine joinH H fun G4 hG4 H => ?_
  refine HT_toK (fun l' s' => G4 (.go ()) = some r ∧ l' = [.slice A0p p0.length c0p, .func (.func 136) #[] #[.pointer (some ⟨bp1c0, 0, none⟩)], undef, undef, getL l' 4, getL l' 5, .slice A0p p0.length c0p, .int .i64 (p0.length : Int), getL l' 8, getL l' 9, getL l' 10, getL l' 11, getL l' 12, getL l' 13, getL l' 14, getL l' 15, getL l' 16, getL l' 17, getL l' 18] ∧ Hp sb s F0 s' [Ck.ov bp1c0 [.int .i64 p1c0_0] 3]) ?_ ?_
  · intro K4 hK4
    refine HT_block ?_
    refine HT_loopK (fun kf l' s' => ∃ (x48 : Int), (slices_IndexFunc_impl_Span_impl_Span_impl_SpansOf_1.l1 p0 p1c0_0 kf x48).bind G4 = some r ∧ l' = [.slice A0p p0.length c0p, .func (.func 136) #[] #[.pointer (some ⟨bp1c0, 0, none⟩)], undef, undef, getL l' 4, getL l' 5, .slice A0p p0.length c0p, .int .i64 (p0.length : Int), .int .i64 x48, getL l' 9, getL l' 10, getL l' 11, getL l' 12, getL l' 13, getL l' 14, getL l' 15, getL l' 16, getL l' 17, getL l' 18] ∧ Hp sb s F0 s' [Ck.ov bp1c0 [.int .i64 p1c0_0] 3]) ((((p0.length : Int)) - (0)).toNat + 2) ⟨0, H, rfl, hH⟩ ?_
    rintro kf l' s60 ⟨x48, H, hl, hH⟩ K60 hK60
    generalize getL l' 4 = j4, getL l' 5 = j5, getL l' 9 = j9, getL l' 10 = j10, getL l' 11 = j11, getL l' 12 = j12, getL l' 13 = j13, getL l' 14 = j14, getL l' 15 = j15, getL l' 16 = j16, getL l' 17 = j17, getL l' 18 = j18 at hl
    subst hl
    cases kf with
    | zero => simp [slices_IndexFunc_impl_Span_impl_Span_impl_SpansOf_1.l1] at H
    | succ kf =>
      rw [slices_IndexFunc_impl_Span_impl_Span_impl_SpansOf_1.l1] at H
      refine HT_seq_k ?_
      intro K61 hK61
      refine HT_region ?_
      refine HL_cons rfl ?_
      refine o_bin rfl rfl rfl ?_
      try dsimp only [putL, setL, evL, getL]
      refine HL_nil ?_
      refine hK61 _ _ ?_
      refine HT_seq_k ?_
      intro K62 hK62
      rcases Bool.eq_false_or_eq_true (decide (x48 < (p0.length : Int))) with hb63 | hb63
      · replace H := iteT hb63 H
        refine HT_true (congrArg Value.bool hb63) ?_
        refine HT_skip ?_
        refine hK62 _ _ ?_
        refine HT_seq_k ?_
        intro K64 hK64
        refine HT_block ?_
        refine HT_seq_k ?_
        intro K65 hK65
        refine HT_region ?_
        refine HL_cons rfl ?_
        refine o_move ?_
        try dsimp only [putL, setL, evL, getL]
        refine HL_cons rfl ?_
        refine o_assign ?_
        try dsimp only [putL, setL, evL, getL]
        refine HL_nil ?_
        refine hK65 _ _ ?_
        refine HT_seq_k ?_
        intro K66 hK66
        refine HT_region ?_
        refine HL_cons rfl ?_
        refine o_move ?_
        try dsimp only [putL, setL, evL, getL]
        refine HL_cons rfl ?_
        refine o_move ?_
        try dsimp only [putL, setL, evL, getL]
        refine HL_cons rfl ?_
        refine o_move ?_
        try dsimp only [putL, setL, evL, getL]
        replace H := headE H
        obtain ⟨u67, hu67, H⟩ := H
        obtain ⟨b67, o67, cs67, hr67, hh67, hel67⟩ := Rd.elb HRp0 hu67
        obtain ⟨_, _, rfl, rfl, ⟨_, _, rfl, rfl, rfl⟩⟩ := hr67
        refine HL_cons rfl ?_
        refine hel67 s60 rfl rfl Try.underlying54 tI138 ?_
        try dsimp only [putL, setL, evL, getL]
        refine HL_cons rfl ?_
        refine o_loads' [.int .i64 u67.1, .int .i64 u67.2.1, .int .i64 u67.2.2] rfl Try.underlying138 rfl tI138 rfl (fun j v hj => (hh67 hH.bs.mono) j v hj) ?_
        try dsimp only [putL, setL, evL, getL]
        replace H := headE H
        obtain ⟨u68, hu68, H⟩ := H
        obtain ⟨F1, hA, hB⟩ := hH.take [0] (by decide)
        dsimp only [addC, setC, rmC, selC, getC] at hA
        refine HL_cons rfl ?_
        refine o_callv (first := #[]) (cap := #[.pointer (some ⟨bp1c0, 0, none⟩)]) (args := #[.agg #[.int .i64 u67.1, .int .i64 u67.2.1, .int .i64 u67.2.2], .pointer (some ⟨bp1c0, 0, none⟩)]) rfl Try.func136 rfl rfl [.agg #[.int .i64 u67.1, .int .i64 u67.2.1, .int .i64 u67.2.2]] rfl (by simp) (impl_SpansOf_1.ok sb s60 F1 u67.1 u67.2.1 u67.2.2 bp1c0 p1c0_0 hA _ hu68) ?_
        rintro _ s68 ⟨rfl, hD⟩
        replace hH := hB _ _ _ (Up.refl _ _ _) hD
        clear hD hA hB
        dsimp only [addC, setC, rmC, selC, getC] at hH
        try dsimp only [putL, setL, evL, getL]
        refine HL_nil ?_
        refine hK66 _ _ ?_
        rcases Bool.eq_false_or_eq_true u68 with hb69 | hb69
        · replace H := iteT hb69 H
          refine HT_true (congrArg Value.bool hb69) ?_
          refine HT_seq_k ?_
          intro K70 hK70
          refine HT_region ?_
          refine HL_cons rfl ?_
          refine o_move ?_
          try dsimp only [putL, setL, evL, getL]
          refine HL_cons rfl ?_
          refine o_assign ?_
          try dsimp only [putL, setL, evL, getL]
          refine HL_nil ?_
          refine hK70 _ _ ?_
          refine HT_ret ?_
          replace H := escH (fun z hz => hG4 _ hz) H
          exact hQr _ _ [.int .i64 x48] ⟨rfl, trivial⟩ (retH (fun r => slices_IndexFunc_impl_Span_impl_Span_impl_SpansOf_1.post sb s F0 bp1c0 p1c0_0 r _ _) (show some _ = some r from H) ⟨rfl, hH.sel [1] (by decide)⟩)
        · replace H := iteF hb69 H
          refine HT_false (congrArg Value.bool hb69) ?_
          refine HT_skip ?_
          refine hK64 _ _ ?_
          refine HT_region ?_
          refine HL_cons rfl ?_
          refine o_bin rfl rfl rfl ?_
          try dsimp only [putL, setL, evL, getL]
          refine HL_cons rfl ?_
          refine o_move ?_
          try dsimp only [putL, setL, evL, getL]
          refine HL_nil ?_
          exact hK60 _ _ ⟨kf, Nat.lt_succ_self kf, IntKind.i64.wrap (x48 + 1), H, rfl, hH.sel [1] (by decide)⟩
      · replace H := iteF hb63 H
        refine HT_false (congrArg Value.bool hb63) ?_
        refine HT_exit ?_
        exact hK4 _ _ ⟨H, rfl, hH⟩
  · rintro l' s71 ⟨H, hl, hH⟩
    generalize getL l' 4 = j4, getL l' 5 = j5, getL l' 8 = j8, getL l' 9 = j9, getL l' 10 = j10, getL l' 11 = j11, getL l' 12 = j12, getL l' 13 = j13, getL l' 14 = j14, getL l' 15 = j15, getL l' 16 = j16, getL l' 17 = j17, getL l' 18 = j18 at hl
    subst hl
    replace H := hG4 _ H
    try dsimp only at H
    refine hK2 _ _ ?_
    refine HT_seq_k ?_
    intro K72 hK72
    refine HT_region ?_
    refine HL_cons rfl ?_
    refine o_assign ?_
    try dsimp only [putL, setL, evL, getL]
    refine HL_nil ?_
    refine hK72 _ _ ?_
    refine HT_ret ?_
    exact hQr _ _ [.int .i64 (-1)] ⟨rfl, trivial⟩ (retH (fun r => slices_IndexFunc_impl_Span_impl_Span_impl_SpansOf_1.post sb s F0 bp1c0 p1c0_0 r _ _) (show some _ = some r from H) ⟨rfl, hH⟩)
def slices_DeleteFunc_impl_Span_impl_Span_impl_SpansOf_1.l1 (p0 : List ((Int) × (Int) × (Int))) (p1c0_0 : Int) : Nat → (List ((Int) × (Int) × (Int))) → Int → Int → Option ((List ((Int) × (Int) × (Int))) × Int)
  | 0, _, _, _ => none
  | kf + 1, x128, x129, x130 => if (decide (x130 < (p0.length : Int))) = true then (((rd? x128 x130).bind fun u179 => (impl_SpansOf_1.f u179.1 u179.2.1 u179.2.2 p1c0_0).bind fun u183 => if (!u183) = true then ((rd? x128 x129).bind fun u186 => (st? x128 x129 (u179.1, u179.2.1, u179.2.2)).bind fun x187 => some (x187, (IntKind.i64.wrap (x129 + 1)))) else (some (x128, x129))).bind fun (o : (List ((Int) × (Int) × (Int))) × Int) => match o with | (x176, x177) => (slices_DeleteFunc_impl_Span_impl_Span_impl_SpansOf_1.l1 p0 p1c0_0 kf x176 x177 (IntKind.i64.wrap (x130 + 1)))) else (some (x128, x129))
def slices_DeleteFunc_impl_Span_impl_Span_impl_SpansOf_1.f (p0 : List ((Int) × (Int) × (Int))) (p1c0_0 : Int) : Option (List ((Int) × (Int) × (Int))) := (slices_IndexFunc_impl_Span_impl_Span_impl_SpansOf_1.f p0 p1c0_0).bind fun u3 => if (u3 == (-1)) = true then (some p0) else ((slices_DeleteFunc_impl_Span_impl_Span_impl_SpansOf_1.l1 p0 p1c0_0 ((((p0.length : Int)) - (IntKind.i64.wrap (u3 + 1))).toNat + 2) p0 u3 (IntKind.i64.wrap (u3 + 1))).bind fun (o : (List ((Int) × (Int) × (Int))) × Int) => match o with | (x99, x100) => ((cut? x99 x100 (x99.length : Int)).bind fun x191 => (some (cpy x99 (Int.toNat x100) x191.length (List.replicate x191.length (0, 0, 0)))).bind fun x192 => (cut? x192 0 x100).bind fun x194 => some x194))
def slices_DeleteFunc_impl_Span_impl_Span_impl_SpansOf_1.post (sb s : St) (F0 : Fp) (bp1c0 : Nat) (p1c0_0 : Int) (r : (List ((Int) × (Int) × (Int)))) : Value → St → Prop := fun v s' => ∃ (A0 : Option Addr) (c0 : Nat), v = .slice A0 r.length c0 ∧ Hp sb s F0 s' [Ck.ol OS138 138 A0 c0 r, Ck.ov bp1c0 [.int .i64 p1c0_0] 3]
set_option maxRecDepth 100000 in
set_option maxHeartbeats 4000000 in
theorem slices_DeleteFunc_impl_Span_impl_Span_impl_SpansOf_1.ok (sb s : St) (F0 : Fp) (A0p : Option Addr) (c0p : Nat) (p0 : List ((Int) × (Int) × (Int))) (bp1c0 : Nat) (p1c0_0 : Int) (hH : Hp sb s F0 s [Ck.ol OS138 138 A0p c0p p0, Ck.ov bp1c0 [.int .i64 p1c0_0] 3]) (r : (List ((Int) × (Int) × (Int)))) (H : slices_DeleteFunc_impl_Span_impl_Span_impl_SpansOf_1.f p0 p1c0_0 = some r) : GCall Try.prog 134 #[.slice A0p p0.length c0p, .func (.func 136) #[] #[.pointer (some ⟨bp1c0, 0, none⟩)]] s (slices_DeleteFunc_impl_Span_impl_Span_impl_SpansOf_1.post sb s F0 bp1c0 p1c0_0 r) := by
  refine GCall_ofk [.tmp 4] [.slice A0p p0.length c0p, .func (.func 136) #[] #[.pointer (some ⟨bp1c0, 0, none⟩)], undef, undef, undef, undef, undef, undef, undef, undef, undef, undef, undef, undef, undef, undef, undef, undef, undef, undef, undef, undef, undef, undef, undef, undef, undef, undef, undef, undef, undef, undef, undef, undef, undef, undef, undef, undef, undef, undef, undef, undef] Try.func134 rfl rfl rfl ?_
  intro w Q hQr hQn hQp
  replace H := topE H
  unfold slices_DeleteFunc_impl_Span_impl_Span_impl_SpansOf_1.f at H
  refine HT_seq_k ?_
  intro K1 hK1
  refine HT_region ?_
  refine HL_cons rfl ?_
  refine o_assign ?_
  try dsimp only [putL, setL, evL, getL]
  refine HL_nil ?_
  refine hK1 _ _ ?_
  refine HT_seq_k ?_
  intro K2 hK2
  refine HT_region ?_
  refine HL_cons rfl ?_
  refine o_move ?_
  try dsimp only [putL, setL, evL, getL]
  refine HL_cons rfl ?_
  refine o_move ?_
  try dsimp only [putL, setL, evL, getL]
  replace H := headE H
  obtain ⟨u3, hu3, H⟩ := H
  obtain ⟨F1, sx, hx, hC, hA, hB⟩ := hH.takeT [1] (by decide)
  dsimp only [addC, setC, rmC, selC, getC] at hA
  refine HL_cons rfl ?_
  refine o_call (args := #[.slice A0p p0.length c0p, .func (.func 136) #[] #[.pointer (some ⟨bp1c0, 0, none⟩)]]) Try.func195 rfl rfl rfl (slices_IndexFunc_impl_Span_impl_Span_impl_SpansOf_1.ok sx s F1 A0p c0p p0 bp1c0 p1c0_0 (Ck.rdT hx (hC 0 (by decide)) rfl) hA _ hu3) ?_
  rintro _ s3 ⟨rfl, hD⟩
  replace hH := hB _ _ _ inferInstance hD
  clear hD hA hB hx hC
  dsimp only [addC, setC, rmC, selC, getC] at hH
  try dsimp only [putL, setL, evL, getL]
  refine HL_cons rfl ?_
  refine o_assign ?_
  try dsimp only [putL, setL, evL, getL]
  refine HL_nil ?_
  refine hK2 _ _ ?_
  refine HT_seq_k ?_
  intro K4 hK4
  refine HT_seq_k ?_
  intro K5 hK5
  refine HT_region ?_
  refine HL_cons rfl ?_
  refine o_move ?_
  try dsimp only [putL, setL, evL, getL]
  refine HL_cons rfl ?_
  refine o_bin rfl rfl rfl ?_
  try dsimp only [putL, setL, evL, getL]
  refine HL_nil ?_
  refine hK5 _ _ ?_
  rcases Bool.eq_false_or_eq_true (u3 == (-1)) with hb6 | hb6
  · replace H := iteT hb6 H
    refine HT_true (congrArg Value.bool hb6) ?_
    refine HT_seq_k ?_
    intro K7 hK7
    refine HT_region ?_
    refine HL_cons rfl ?_
    refine o_move ?_
    try dsimp only [putL, setL, evL, getL]
    refine HL_cons rfl ?_
    refine o_assign ?_
    try dsimp only [putL, setL, evL, getL]
    refine HL_nil ?_
    refine hK7 _ _ ?_
    refine HT_ret ?_
    exact hQr _ _ [.slice A0p p0.length c0p] ⟨rfl, trivial⟩ (retH (fun r => slices_DeleteFunc_impl_Span_impl_Span_impl_SpansOf_1.post sb s F0 bp1c0 p1c0_0 r _ _) (show some _ = some r from H) ⟨A0p, c0p, rfl, hH.sel [0, 2] (by decide)⟩)
  · replace H := iteF hb6 H
    refine HT_false (congrArg Value.bool hb6) ?_
    refine HT_skip ?_
    refine hK4 _ _ ?_
    refine HT_seq_k ?_
    intro K8 hK8
    refine HT_seq_k ?_
    intro K9 hK9
    refine HT_region ?_
    refine HL_cons rfl ?_
    refine o_move ?_
    try dsimp only [putL, setL, evL, getL]
    refine HL_cons rfl ?_
    refine o_bin rfl rfl rfl ?_
    try dsimp only [putL, setL, evL, getL]
    refine HL_cons rfl ?_
    refine o_assign ?_
    try dsimp only [putL, setL, evL, getL]
    refine HL_nil ?_
    refine hK9 _ _ ?_
    refine joinH H fun G10 hG10 H => ?_
    refine HT_toK (fun l' s' => ∃ (x99 : List ((Int) × (Int) × (Int))) (x100 : Int), G10 (x99, x100) = some r ∧ l' = [.slice A0p p0.length c0p, .func (.func 136) #[] #[.pointer (some ⟨bp1c0, 0, none⟩)], undef, undef, .slice none 0 0, .int .i64 x100, getL l' 6, getL l' 7, .slice A0p p0.length c0p, .func (.func 136) #[] #[.pointer (some ⟨bp1c0, 0, none⟩)], .int .i64 u3, .int .i64 u3, .bool (u3 == (-1)), undef, .int .i64 u3, .int .i64 (IntKind.i64.wrap (u3 + 1)), getL l' 16, getL l' 17, getL l' 18, getL l' 19, getL l' 20, getL l' 21, getL l' 22, getL l' 23, getL l' 24, getL l' 25, getL l' 26, getL l' 27, getL l' 28, getL l' 29, getL l' 30, getL l' 31, getL l' 32, getL l' 33, getL l' 34, getL l' 35, undef, undef, undef, undef, undef, undef] ∧ Hp sb s F0 s' [Ck.ol OS138 138 A0p c0p x99, Ck.ov bp1c0 [.int .i64 p1c0_0] 3] ∧ x99.length = p0.length) ?_ ?_
    · intro K10 hK10
      refine HT_block ?_
      refine HT_loopK (fun kf l' s' => ∃ (x128 : List ((Int) × (Int) × (Int))) (x129 : Int) (x130 : Int), (slices_DeleteFunc_impl_Span_impl_Span_impl_SpansOf_1.l1 p0 p1c0_0 kf x128 x129 x130).bind G10 = some r ∧ l' = [.slice A0p p0.length c0p, .func (.func 136) #[] #[.pointer (some ⟨bp1c0, 0, none⟩)], undef, undef, .slice none 0 0, .int .i64 x129, .int .i64 x130, getL l' 7, .slice A0p p0.length c0p, .func (.func 136) #[] #[.pointer (some ⟨bp1c0, 0, none⟩)], .int .i64 u3, .int .i64 u3, .bool (u3 == (-1)), undef, .int .i64 u3, .int .i64 (IntKind.i64.wrap (u3 + 1)), getL l' 16, getL l' 17, getL l' 18, getL l' 19, getL l' 20, getL l' 21, getL l' 22, getL l' 23, getL l' 24, getL l' 25, getL l' 26, getL l' 27, getL l' 28, getL l' 29, getL l' 30, getL l' 31, getL l' 32, getL l' 33, getL l' 34, getL l' 35, undef, undef, undef, undef, undef, undef] ∧ Hp sb s F0 s' [Ck.ol OS138 138 A0p c0p x128, Ck.ov bp1c0 [.int .i64 p1c0_0] 3] ∧ x128.length = p0.length) ((((p0.length : Int)) - (IntKind.i64.wrap (u3 + 1))).toNat + 2) ⟨p0, u3, IntKind.i64.wrap (u3 + 1), H, rfl, hH.sel [0, 2] (by decide), rfl⟩ ?_
      rintro kf l' s161 ⟨x128, x129, x130, H, hl, hH, hl128⟩ K161 hK161
      generalize getL l' 7 = j7, getL l' 16 = j16, getL l' 17 = j17, getL l' 18 = j18, getL l' 19 = j19, getL l' 20 = j20, getL l' 21 = j21, getL l' 22 = j22, getL l' 23 = j23, getL l' 24 = j24, getL l' 25 = j25, getL l' 26 = j26, getL l' 27 = j27, getL l' 28 = j28, getL l' 29 = j29, getL l' 30 = j30, getL l' 31 = j31, getL l' 32 = j32, getL l' 33 = j33, getL l' 34 = j34, getL l' 35 = j35 at hl
      subst hl
      cases kf with
      | zero => simp [slices_DeleteFunc_impl_Span_impl_Span_impl_SpansOf_1.l1] at H
      | succ kf =>
        rw [slices_DeleteFunc_impl_Span_impl_Span_impl_SpansOf_1.l1] at H
        refine HT_seq_k ?_
        intro K162 hK162
        refine HT_seq_k ?_
        intro K163 hK163
        refine HT_region ?_
        refine HL_cons rfl ?_
        refine o_move ?_
        try dsimp only [putL, setL, evL, getL]
        refine HL_cons rfl ?_
        refine o_move ?_
        try dsimp only [putL, setL, evL, getL]
        refine HL_cons rfl ?_
        refine o_len rfl Try.underlying54 ?_
        try dsimp only [putL, setL, evL, getL]
        refine HL_cons rfl ?_
        refine o_bin rfl rfl rfl ?_
        try dsimp only [putL, setL, evL, getL]
        refine HL_nil ?_
        refine hK163 _ _ ?_
        rcases Bool.eq_false_or_eq_true (decide (x130 < (p0.length : Int))) with hb164 | hb164
        · replace H := iteT hb164 H
          refine HT_true (congrArg Value.bool hb164) ?_
          refine HT_skip ?_
          refine hK162 _ _ ?_
          refine joinH H fun G165 hG165 H => ?_
          refine HT_joinK (fun l' s' => ∃ (x176 : List ((Int) × (Int) × (Int))) (x177 : Int), G165 (x176, x177) = some r ∧ l' = [.slice A0p p0.length c0p, .func (.func 136) #[] #[.pointer (some ⟨bp1c0, 0, none⟩)], undef, undef, .slice none 0 0, .int .i64 x177, .int .i64 x130, getL l' 7, .slice A0p p0.length c0p, .func (.func 136) #[] #[.pointer (some ⟨bp1c0, 0, none⟩)], .int .i64 u3, .int .i64 u3, .bool (u3 == (-1)), undef, .int .i64 u3, .int .i64 (IntKind.i64.wrap (u3 + 1)), .int .i64 x130, .slice A0p p0.length c0p, .int .i64 (p0.length : Int), .bool (decide (x130 < (p0.length : Int))), j20, j21, getL l' 22, getL l' 23, getL l' 24, getL l' 25, getL l' 26, getL l' 27, getL l' 28, getL l' 29, getL l' 30, getL l' 31, getL l' 32, getL l' 33, getL l' 34, getL l' 35, undef, undef, undef, undef, undef, undef] ∧ Hp sb s F0 s' [Ck.ol OS138 138 A0p c0p x176, Ck.ov bp1c0 [.int .i64 p1c0_0] 3] ∧ x176.length = p0.length) ?_ ?_
          · intro K165 hK165
            refine HT_block ?_
            refine HT_seq_k ?_
            intro K178 hK178
            refine HT_region ?_
            refine HL_cons rfl ?_
            refine o_move ?_
            try dsimp only [putL, setL, evL, getL]
            refine HL_cons rfl ?_
            refine o_move ?_
            try dsimp only [putL, setL, evL, getL]
            replace H := headE H
            obtain ⟨u179, hu179, H⟩ := H
            obtain ⟨b179, o179, cs179, hA179, hr179, hh179, hel179⟩ := hH.elo 0 rfl hu179
            obtain ⟨_, _, rfl, rfl, ⟨_, _, rfl, rfl, rfl⟩⟩ := hr179
            refine HL_cons rfl ?_
            refine hel179 s161 (sliceLen hl128) rfl Try.underlying54 tI138 ?_
            try dsimp only [putL, setL, evL, getL]
            refine HL_cons rfl ?_
            refine o_loads' [.int .i64 u179.1, .int .i64 u179.2.1, .int .i64 u179.2.2] rfl Try.underlying138 rfl tI138 rfl (fun j v hj => hh179 j v hj) ?_
            try dsimp only [putL, setL, evL, getL]
            refine HL_cons rfl ?_
            refine o_allocH hH tI138 ?_
            intro b180 s180 hH' hG
            replace hH : Hp sb s F0 s180 [Ck.ol OS138 138 A0p c0p x128, Ck.ov bp1c0 [.int .i64 p1c0_0] 3, Ck.ov b180 [.int .i64 0, .int .i64 0, .int .i64 0] 138] := hH'
            clear hH' hG
            try dsimp only [putL, setL, evL, getL]
            refine HL_cons rfl ?_
            refine o_stvH (vs := [.int .i64 u179.1, .int .i64 u179.2.1, .int .i64 u179.2.2]) (us' := [.int .i64 u179.1, .int .i64 u179.2.1, .int .i64 u179.2.2]) hH 2 rfl rfl rfl rfl rfl tI138 rfl (List.cons_ne_nil _ _) rfl rfl rfl ?_
            intro s181 hH'
            replace hH : Hp sb s F0 s181 [Ck.ol OS138 138 A0p c0p x128, Ck.ov bp1c0 [.int .i64 p1c0_0] 3, Ck.ov b180 [.int .i64 u179.1, .int .i64 u179.2.1, .int .i64 u179.2.2] 138] := hH'
            clear hH'
            try dsimp only [putL, setL, evL, getL]
            refine HL_nil ?_
            refine hK178 _ _ ?_
            refine HT_seq_k ?_
            intro K182 hK182
            refine HT_region ?_
            refine HL_cons rfl ?_
            refine o_move ?_
            try dsimp only [putL, setL, evL, getL]
            refine HL_cons rfl ?_
            refine o_loads' [.int .i64 u179.1, .int .i64 u179.2.1, .int .i64 u179.2.2] rfl Try.underlying138 rfl tI138 rfl (hH.partv 2 rfl (0) [.int .i64 u179.1, .int .i64 u179.2.1, .int .i64 u179.2.2] rfl) ?_
            try dsimp only [putL, setL, evL, getL]
            replace H := headE H
            obtain ⟨u183, hu183, H⟩ := H
            obtain ⟨F1, hA, hB⟩ := hH.take [1] (by decide)
            dsimp only [addC, setC, rmC, selC, getC] at hA
            refine HL_cons rfl ?_
            refine o_callv (first := #[]) (cap := #[.pointer (some ⟨bp1c0, 0, none⟩)]) (args := #[.agg #[.int .i64 u179.1, .int .i64 u179.2.1, .int .i64 u179.2.2], .pointer (some ⟨bp1c0, 0, none⟩)]) rfl Try.func136 rfl rfl [.agg #[.int .i64 u179.1, .int .i64 u179.2.1, .int .i64 u179.2.2]] rfl (by simp) (impl_SpansOf_1.ok sb s181 F1 u179.1 u179.2.1 u179.2.2 bp1c0 p1c0_0 hA _ hu183) ?_
            rintro _ s183 ⟨rfl, hD⟩
            replace hH := hB _ _ _ (Up.refl _ _ _) hD
            clear hD hA hB
            dsimp only [addC, setC, rmC, selC, getC] at hH
            try dsimp only [putL, setL, evL, getL]
            refine HL_cons rfl ?_
            refine o_not rfl ?_
            try dsimp only [putL, setL, evL, getL]
            refine HL_nil ?_
            refine hK182 _ _ ?_
            rcases Bool.eq_false_or_eq_true (!u183) with hb184 | hb184
            · replace H := iteT hb184 H
              refine HT_true (congrArg Value.bool hb184) ?_
              refine HT_seq_k ?_
              intro K185 hK185
              refine HT_region ?_
              refine HL_cons rfl ?_
              refine o_move ?_
              try dsimp only [putL, setL, evL, getL]
              refine HL_cons rfl ?_
              refine o_move ?_
              try dsimp only [putL, setL, evL, getL]
              refine HL_cons rfl ?_
              refine o_loads' [.int .i64 u179.1, .int .i64 u179.2.1, .int .i64 u179.2.2] rfl Try.underlying138 rfl tI138 rfl (hH.partv 2 rfl (0) [.int .i64 u179.1, .int .i64 u179.2.1, .int .i64 u179.2.2] rfl) ?_
              try dsimp only [putL, setL, evL, getL]
              replace H := headE H
              obtain ⟨u186, hu186, H⟩ := H
              obtain ⟨b186, o186, cs186, hA186, hr186, hh186, hel186⟩ := hH.elo 0 rfl hu186
              obtain ⟨_, _, rfl, rfl, ⟨_, _, rfl, rfl, rfl⟩⟩ := hr186
              refine HL_cons rfl ?_
              refine hel186 s183 (sliceLen hl128) rfl Try.underlying54 tI138 ?_
              try dsimp only [putL, setL, evL, getL]
              replace H := headE H
              obtain ⟨x187, hx187, H⟩ := H
              refine HL_cons rfl ?_
              refine o_setF (vs := [.int .i64 u179.1, .int .i64 u179.2.1, .int .i64 u179.2.2]) (u := (u179.1, u179.2.1, u179.2.2)) hH 0 rfl rfl rfl rfl rfl tI138 hA186 hx187 (Ent.own (Ent.pair (v1 := [.int .i64 u179.1]) (v2 := [.int .i64 u179.2.1, .int .i64 u179.2.2]) (x1 := u179.1) (x2 := (u179.2.1, u179.2.2)) (Ent.flat rfl) (Ent.pair (v1 := [.int .i64 u179.2.1]) (v2 := [.int .i64 u179.2.2]) (x1 := u179.2.1) (x2 := u179.2.2) (Ent.flat rfl) (Ent.flat rfl)))) ?_
              intro s187 hH'
              have hl187 := (st?_len hx187).trans hl128
              replace hH : Hp sb s F0 s187 [Ck.ol OS138 138 A0p c0p x187, Ck.emp, Ck.ov b180 [.int .i64 u179.1, .int .i64 u179.2.1, .int .i64 u179.2.2] 138, Ck.ov bp1c0 [.int .i64 p1c0_0] 3] := hH'
              clear hH'
              try dsimp only [putL, setL, evL, getL]
              refine HL_nil ?_
              refine hK185 _ _ ?_
              refine HT_region ?_
              refine HL_cons rfl ?_
              refine o_move ?_
              try dsimp only [putL, setL, evL, getL]
              refine HL_cons rfl ?_
              refine o_bin rfl rfl rfl ?_
              try dsimp only [putL, setL, evL, getL]
              refine HL_cons rfl ?_
              refine o_assign ?_
              try dsimp only [putL, setL, evL, getL]
              refine HL_nil ?_
              exact hK165 _ _ ⟨x187, IntKind.i64.wrap (x129 + 1), H, rfl, hH.sel [0, 3] (by decide), hl187⟩
            · replace H := iteF hb184 H
              refine HT_false (congrArg Value.bool hb184) ?_
              refine HT_skip ?_
              exact hK165 _ _ ⟨x128, x129, H, rfl, hH.sel [0, 3] (by decide), hl128⟩
          · rintro l' s188 ⟨x176, x177, H, hl, hH, hl176⟩
            generalize getL l' 7 = j7, getL l' 22 = j22, getL l' 23 = j23, getL l' 24 = j24, getL l' 25 = j25, getL l' 26 = j26, getL l' 27 = j27, getL l' 28 = j28, getL l' 29 = j29, getL l' 30 = j30, getL l' 31 = j31, getL l' 32 = j32, getL l' 33 = j33, getL l' 34 = j34, getL l' 35 = j35 at hl
            subst hl
            replace H := hG165 _ H
            try dsimp only at H
            refine HT_region ?_
            refine HL_cons rfl ?_
            refine o_move ?_
            try dsimp only [putL, setL, evL, getL]
            refine HL_cons rfl ?_
            refine o_bin rfl rfl rfl ?_
            try dsimp only [putL, setL, evL, getL]
            refine HL_cons rfl ?_
            refine o_assign ?_
            try dsimp only [putL, setL, evL, getL]
            refine HL_nil ?_
            exact hK161 _ _ ⟨kf, Nat.lt_succ_self kf, x176, x177, IntKind.i64.wrap (x130 + 1), H, rfl, hH, hl176⟩
        · replace H := iteF hb164 H
          refine HT_false (congrArg Value.bool hb164) ?_
          refine HT_exit ?_
          exact hK10 _ _ ⟨x128, x129, H, rfl, hH, hl128⟩
    · rintro l' s189 ⟨x99, x100, H, hl, hH, hl99⟩
      generalize getL l' 6 = j6, getL l' 7 = j7, getL l' 16 = j16, getL l' 17 = j17, getL l' 18 = j18, getL l' 19 = j19, getL l' 20 = j20, getL l' 21 = j21, getL l' 22 = j22, getL l' 23 = j23, getL l' 24 = j24, getL l' 25 = j25, getL l' 26 = j26, getL l' 27 = j27, getL l' 28 = j28, getL l' 29 = j29, getL l' 30 = j30, getL l' 31 = j31, getL l' 32 = j32, getL l' 33 = j33, getL l' 34 = j34, getL l' 35 = j35 at hl
      subst hl
      replace H := hG10 _ H
      try dsimp only at H
      refine hK8 _ _ ?_
      refine HT_seq_k ?_
      intro K190 hK190
      refine HT_region ?_
      refine HL_cons rfl ?_
      refine o_move ?_
      try dsimp only [putL, setL, evL, getL]
      refine HL_cons rfl ?_
      refine o_move ?_
      try dsimp only [putL, setL, evL, getL]
      replace H := headE H
      obtain ⟨x191, hx191, H⟩ := H
      refine HL_cons rfl ?_
      refine o_cutA (xs := x99) (kl := .i64) (kh := .i64) (L := x100) (H := (x99.length : Int)) (sliceLen hl99) rfl rfl Try.underlying54 tI138 (hH.rd 0 rfl).1 hx191 ?_
      have D191 := @Der.cut _ _ OS138 138 A0p c0p _ _ _ _ hx191
      try dsimp only [putL, setL, evL, getL]
      replace H := headE H
      obtain ⟨x192, hx192, H⟩ := H
      refine HL_cons rfl ?_
      refine o_clearF (K := KS138) (x0 := (0, 0, 0)) (lo := Int.toNat x100) (n := x191.length) hH 0 rfl rfl rfl Try.underlying54 tI138 rfl (by kernel_rfl) (Own0.pair (v1 := [.int .i64 0]) (v2 := [.int .i64 0, .int .i64 0]) (x1 := 0) (x2 := (0, 0)) (Own0.fl fun _ => rfl) (Own0.pair (v1 := [.int .i64 0]) (v2 := [.int .i64 0]) (x1 := 0) (x2 := 0) (Own0.fl fun _ => rfl) (Own0.fl fun _ => rfl))) (.inr rfl) (cut?_room hx191) hx192 ?_
      intro s192 hH'
      have hl192 := (cpy_len (n := x191.length) (cut?_room hx191) hx192).trans hl99
      replace hH : Hp sb s F0 s192 [Ck.ol OS138 138 A0p c0p x192, Ck.ov bp1c0 [.int .i64 p1c0_0] 3] := hH'
      clear hH'
      try dsimp only [putL, setL, evL, getL]
      refine HL_nil ?_
      refine hK190 _ _ ?_
      refine HT_seq_k ?_
      intro K193 hK193
      refine HT_region ?_
      refine HL_cons rfl ?_
      refine o_move ?_
      try dsimp only [putL, setL, evL, getL]
      refine HL_cons rfl ?_
      refine o_move ?_
      try dsimp only [putL, setL, evL, getL]
      replace H := headE H
      obtain ⟨x194, hx194, H⟩ := H
      refine HL_cons rfl ?_
      refine o_cutA (xs := x192) (kl := .i64) (kh := .i64) (L := 0) (H := x100) (sliceLen hl192) rfl rfl Try.underlying54 tI138 (hH.rd 0 rfl).1 hx194 ?_
      have D194 := @Der.cut _ _ OS138 138 A0p c0p _ _ _ _ hx194
      try dsimp only [putL, setL, evL, getL]
      refine HL_cons rfl ?_
      refine o_assign ?_
      try dsimp only [putL, setL, evL, getL]
      refine HL_nil ?_
      refine hK193 _ _ ?_
      refine HT_ret ?_
      exact hQr _ _ [.slice (cutA A0p c0p (Int.toNat 0) (Kd.sz KS138)) x194.length (c0p - Int.toNat 0)] ⟨rfl, trivial⟩ (retH (fun r => slices_DeleteFunc_impl_Span_impl_Span_impl_SpansOf_1.post sb s F0 bp1c0 p1c0_0 r _ _) (show some _ = some r from H) ⟨(cutA A0p c0p (Int.toNat 0) (Kd.sz KS138)), c0p - Int.toNat 0, rfl, (hH.cut 0 rfl rfl hx194)⟩)
end Go.Proofs.Ytkieinlcpkpcjaa
