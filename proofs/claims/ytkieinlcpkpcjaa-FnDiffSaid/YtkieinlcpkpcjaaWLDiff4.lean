/- The functions that the law reaches, as plain functions, each with its contract: printed by a program of the prover's. No conditions: lemmas. -/
import Derived.Test.YtkieinlcpkpcjaaWLDiff3
set_option linter.unusedVariables false
set_option linter.unusedSimpArgs false
namespace Go.Proofs.Ytkieinlcpkpcjaa
open Go Go.Proofs.GL
def spec_ApplyDiff.l1 (p1 : List ((Int) × (List (Int)))) : Nat → (List (Int)) → (List (Int)) → Int → Option (Lo ((List (Int)) × (List (Int))) ((List (Int)) × Bool))
  | 0, _, _, _ => none
  | kf + 1, x591, x592, x593 => if (decide (x593 < (p1.length : Int))) = true then (((rd? p1 x593).bind fun u807 => (if (u807.1 != 3) = true then ((if (decide ((u807.2.length : Int) > (x591.length : Int))) = true then (some true) else ((cut? x591 0 (u807.2.length : Int)).bind fun x861 => (spec_l1Same.f x861 u807.2).bind fun u862 => some (!u862))).bind fun (o : Bool) => match o with | x859 => (if x859 = true then ((((some ([], false)).bind fun z => some (Lo.ret z)).bind fun z => some (Lo.ret z)).bind fun z => some (Lo.ret z)) else ((cut? x591 (u807.2.length : Int) (x591.length : Int)).bind fun x866 => some (Lo.go x866)))) else (some (Lo.go x591))).bind fun (o : Lo (List (Int)) (Lo ((List (Int)) × (List (Int))) (Lo ((List (Int)) × (List (Int))) ((List (Int)) × Bool)))) => match o with | .go x839 => (if (u807.1 != 2) = true then ((app? 17592186044416 x592 u807.2).bind fun x870 => some (Lo.go (x839, x870))) else (some (Lo.go (x839, x592)))) | .ret z => some z).bind fun (o : Lo ((List (Int)) × (List (Int))) (Lo ((List (Int)) × (List (Int))) ((List (Int)) × Bool))) => match o with | .go (x804, x805) => (spec_ApplyDiff.l1 p1 kf x804 x805 (IntKind.i64.wrap (x593 + 1))) | .ret z => some z) else (some (Lo.go (x591, x592)))
def spec_ApplyDiff.f (p0 : List (Int)) (p1 : List ((Int) × (List (Int)))) : Option ((List (Int)) × Bool) := ((spec_l15List.f p0).bind fun u20 => if (!u20) = true then (some true) else ((spec_l15Edits.f p1).bind fun u22 => some (!u22))).bind fun (o : Bool) => match o with | x19 => (if x19 = true then (some ([], false)) else ((spec_ApplyDiff.l1 p1 ((((p1.length : Int)) - (0)).toNat + 2) p0 [] 0).bind fun (o : Lo ((List (Int)) × (List (Int))) ((List (Int)) × Bool)) => match o with | .go (x450, x451) => ((if (decide ((x450.length : Int) > 0)) = true then (some true) else (some (decide ((x451.length : Int) > 60)))).bind fun (o : Bool) => match o with | x884 => (if x884 = true then (some ([], false)) else (some (x451, true)))) | .ret z => some z))
def spec_ApplyDiff.post (sb s : St) (F0 : Fp) (r : (List (Int)) × Bool) : Value → St → Prop := fun v s' => ∃ (A0 : Option Addr) (c0 : Nat), v = .tuple #[.slice A0 r.1.length c0, .bool r.2] ∧ Hp sb s F0 s' [Ck.ol OI 3 A0 c0 r.1]
set_option maxRecDepth 100000 in
set_option maxHeartbeats 4000000 in
theorem spec_ApplyDiff.ok (sb s : St) (F0 : Fp) (A0p : Option Addr) (c0p : Nat) (p0 : List (Int)) (A1p : Option Addr) (c1p : Nat) (p1 : List ((Int) × (List (Int)))) (HRp0 : Rd KI sb A0p c0p p0) (HRp1 : Rd KS170 sb A1p c1p p1) (hH : Hp sb s F0 s []) (r : (List (Int)) × Bool) (H : spec_ApplyDiff.f p0 p1 = some r) : GCall Try.prog 75 #[.slice A0p p0.length c0p, .slice A1p p1.length c1p] s (spec_ApplyDiff.post sb s F0 r) := by
  refine GCall_ofk [.tmp 4, .tmp 5] [.slice A0p p0.length c0p, .slice A1p p1.length c1p, undef, undef, undef, undef, undef, undef, undef, undef, undef, undef, undef, undef, undef, undef, undef, undef, undef, undef, undef, undef, undef, undef, undef, undef, undef, undef, undef, undef, undef, undef, undef, undef, undef, undef, undef, undef, undef, undef, undef, undef, undef, undef, undef, undef, undef, undef, undef, undef, undef, undef, undef, undef, undef, undef, undef, undef, undef, undef, undef, undef, undef, undef, undef] Try.func75 rfl rfl rfl ?_
  intro w Q hQr hQn hQp
  replace H := topE H
  unfold spec_ApplyDiff.f at H
  refine HT_seq_k ?_
  intro K1 hK1
  refine HT_region ?_
  refine HL_cons rfl ?_
  refine o_assign ?_
  try dsimp only [putL, setL, evL, getL]
  refine HL_cons rfl ?_
  refine o_assign ?_
  try dsimp only [putL, setL, evL, getL]
  refine HL_nil ?_
  refine hK1 _ _ ?_
  refine HT_seq_k ?_
  intro K14 hK14
  refine joinH H fun G15 hG15 H => ?_
  refine HT_joinK (fun l' s' => ∃ (x19 : Bool), G15 x19 = some r ∧ l' = [.slice A0p p0.length c0p, .slice A1p p1.length c1p, undef, undef, .slice none 0 0, .bool false, undef, undef, undef, getL l' 9, getL l' 10, getL l' 11, getL l' 12, getL l' 13, getL l' 14, getL l' 15, .bool x19, undef, undef, undef, undef, undef, undef, undef, undef, undef, undef, undef, undef, undef, undef, undef, undef, undef, undef, undef, undef, undef, undef, undef, undef, undef, undef, undef, undef, undef, undef, undef, undef, undef, undef, undef, undef, undef, undef, undef, undef, undef, undef, undef, undef, undef, undef, undef, undef] ∧ Hp sb s F0 s' []) ?_ ?_
  · intro K15 hK15
    refine HT_region ?_
    refine HL_cons rfl ?_
    refine o_move ?_
    try dsimp only [putL, setL, evL, getL]
    replace H := headE H
    obtain ⟨u20, hu20, H⟩ := H
    refine HL_cons rfl ?_
    refine o_call (args := #[.slice A0p p0.length c0p]) Try.func101 rfl rfl rfl (spec_l15List.ok sb s no A0p c0p p0 HRp0 (Hp.own hH.bs) _ hu20) ?_
    rintro _ s20 ⟨rfl, hD⟩
    replace hH := hH.back0 hD (Up.refl _ _ _)
    clear hD
    dsimp only [addC, setC, rmC, selC, getC] at hH
    try dsimp only [putL, setL, evL, getL]
    refine HL_cons rfl ?_
    refine o_not rfl ?_
    try dsimp only [putL, setL, evL, getL]
    refine HL_cons rfl ?_
    refine o_move ?_
    try dsimp only [putL, setL, evL, getL]
    rcases Bool.eq_false_or_eq_true (!u20) with hb21 | hb21
    · replace H := iteT hb21 H
      refine HL_skip ?_ ?_
      · exact wantF (j := 3) (b := false) (t := 12) (c := !u20) rfl rfl rfl rfl hb21
      try dsimp only [putL, setL, evL, getL]
      refine HL_skip ?_ ?_
      · exact wantF (j := 3) (b := false) (t := 12) (c := !u20) rfl rfl rfl rfl hb21
      try dsimp only [putL, setL, evL, getL]
      refine HL_skip ?_ ?_
      · exact wantF (j := 3) (b := false) (t := 12) (c := !u20) rfl rfl rfl rfl hb21
      try dsimp only [putL, setL, evL, getL]
      refine HL_cons rfl ?_
      refine o_pickT rfl hb21 ?_
      try dsimp only [putL, setL, evL, getL]
      refine HL_nil ?_
      exact hK15 _ _ ⟨true, H, rfl, hH⟩
    · replace H := iteF hb21 H
      refine HL_want ?_ ?_
      · exact wantT (j := 3) (b := false) (t := 12) (c := !u20) rfl rfl rfl rfl hb21
      refine o_move ?_
      try dsimp only [putL, setL, evL, getL]
      replace H := headE H
      obtain ⟨u22, hu22, H⟩ := H
      refine HL_want ?_ ?_
      · exact wantT (j := 3) (b := false) (t := 12) (c := !u20) rfl rfl rfl rfl hb21
      refine o_call (args := #[.slice A1p p1.length c1p]) Try.func164 rfl rfl rfl (spec_l15Edits.ok sb s20 no A1p c1p p1 HRp1 (Hp.own hH.bs) _ hu22) ?_
      rintro _ s22 ⟨rfl, hD⟩
      replace hH := hH.back0 hD (Up.refl _ _ _)
      clear hD
      dsimp only [addC, setC, rmC, selC, getC] at hH
      try dsimp only [putL, setL, evL, getL]
      refine HL_want ?_ ?_
      · exact wantT (j := 3) (b := false) (t := 12) (c := !u20) rfl rfl rfl rfl hb21
      refine o_not rfl ?_
      try dsimp only [putL, setL, evL, getL]
      refine HL_cons rfl ?_
      refine o_pickF rfl hb21 ?_
      try dsimp only [putL, setL, evL, getL]
      refine HL_nil ?_
      exact hK15 _ _ ⟨!u22, H, rfl, hH⟩
  · rintro l' s23 ⟨x19, H, hl, hH⟩
    generalize getL l' 9 = j9, getL l' 10 = j10, getL l' 11 = j11, getL l' 12 = j12, getL l' 13 = j13, getL l' 14 = j14, getL l' 15 = j15 at hl
    subst hl
    replace H := hG15 _ H
    try dsimp only at H
    rcases Bool.eq_false_or_eq_true x19 with hb24 | hb24
    · replace H := iteT hb24 H
      refine HT_true (congrArg Value.bool hb24) ?_
      refine HT_seq_k ?_
      intro K25 hK25
      refine HT_region ?_
      refine HL_cons rfl ?_
      refine o_assign ?_
      try dsimp only [putL, setL, evL, getL]
      refine HL_cons rfl ?_
      refine o_assign ?_
      try dsimp only [putL, setL, evL, getL]
      refine HL_nil ?_
      refine hK25 _ _ ?_
      refine HT_ret ?_
      exact hQr _ _ [.slice none 0 0, .bool false] ⟨rfl, rfl, trivial⟩ (retH (fun r => spec_ApplyDiff.post sb s F0 r _ _) (show some _ = some r from H) ⟨none, 0, rfl, (hH.nil (K := KI) OI 3)⟩)
    · replace H := iteF hb24 H
      refine HT_false (congrArg Value.bool hb24) ?_
      refine HT_skip ?_
      refine hK14 _ _ ?_
      refine HT_seq_k ?_
      intro K26 hK26
      refine HT_region ?_
      refine HL_cons rfl ?_
      refine o_assign ?_
      try dsimp only [putL, setL, evL, getL]
      refine HL_nil ?_
      refine hK26 _ _ ?_
      refine HT_seq_k ?_
      intro K27 hK27
      refine HT_seq_k ?_
      intro K28 hK28
      refine HT_region ?_
      refine HL_cons rfl ?_
      refine o_move ?_
      try dsimp only [putL, setL, evL, getL]
      refine HL_cons rfl ?_
      refine o_len rfl Try.underlying85 ?_
      try dsimp only [putL, setL, evL, getL]
      refine HL_cons rfl ?_
      refine o_move ?_
      try dsimp only [putL, setL, evL, getL]
      refine HL_nil ?_
      refine hK28 _ _ ?_
      refine joinH H fun G29 hG29 H => ?_
      refine HT_toK (fun l' s' => ∃ (x450 : List (Int)) (A450 : Option Addr) (c450 : Nat) (x451 : List (Int)) (A451 : Option Addr) (c451 : Nat), G29 (.go (x450, x451)) = some r ∧ l' = [.slice A450 x450.length c450, .slice A1p p1.length c1p, undef, undef, getL l' 4, getL l' 5, .slice A451 x451.length c451, undef, getL l' 8, j9, j10, j11, j12, j13, j14, j15, .bool x19, .slice A1p p1.length c1p, .int .i64 (p1.length : Int), getL l' 19, getL l' 20, getL l' 21, getL l' 22, getL l' 23, getL l' 24, getL l' 25, getL l' 26, getL l' 27, getL l' 28, getL l' 29, getL l' 30, getL l' 31, getL l' 32, getL l' 33, getL l' 34, getL l' 35, getL l' 36, getL l' 37, getL l' 38, getL l' 39, getL l' 40, getL l' 41, getL l' 42, getL l' 43, getL l' 44, getL l' 45, getL l' 46, getL l' 47, getL l' 48, getL l' 49, getL l' 50, getL l' 51, getL l' 52, getL l' 53, getL l' 54, getL l' 55, undef, undef, undef, undef, undef, undef, undef, undef, undef] ∧ Hp sb s F0 s' [Ck.ol OI 3 A451 c451 x451] ∧ Rd KI sb A450 c450 x450) ?_ ?_
      · intro K29 hK29
        refine HT_block ?_
        refine HT_loopK (fun kf l' s' => ∃ (x591 : List (Int)) (A591 : Option Addr) (c591 : Nat) (x592 : List (Int)) (A592 : Option Addr) (c592 : Nat) (x593 : Int), (spec_ApplyDiff.l1 p1 kf x591 x592 x593).bind G29 = some r ∧ l' = [.slice A591 x591.length c591, .slice A1p p1.length c1p, undef, undef, getL l' 4, getL l' 5, .slice A592 x592.length c592, undef, getL l' 8, j9, j10, j11, j12, j13, j14, j15, .bool x19, .slice A1p p1.length c1p, .int .i64 (p1.length : Int), .int .i64 x593, getL l' 20, getL l' 21, getL l' 22, getL l' 23, getL l' 24, getL l' 25, getL l' 26, getL l' 27, getL l' 28, getL l' 29, getL l' 30, getL l' 31, getL l' 32, getL l' 33, getL l' 34, getL l' 35, getL l' 36, getL l' 37, getL l' 38, getL l' 39, getL l' 40, getL l' 41, getL l' 42, getL l' 43, getL l' 44, getL l' 45, getL l' 46, getL l' 47, getL l' 48, getL l' 49, getL l' 50, getL l' 51, getL l' 52, getL l' 53, getL l' 54, getL l' 55, undef, undef, undef, undef, undef, undef, undef, undef, undef] ∧ Hp sb s F0 s' [Ck.ol OI 3 A592 c592 x592] ∧ Rd KI sb A591 c591 x591) ((((p1.length : Int)) - (0)).toNat + 2) ⟨p0, A0p, c0p, [], none, 0, 0, H, rfl, (hH.nil (K := KI) OI 3), HRp0⟩ ?_
        rintro kf l' s734 ⟨x591, A591, c591, x592, A592, c592, x593, H, hl, hH, D591⟩ K734 hK734
        generalize getL l' 4 = j4, getL l' 5 = j5, getL l' 8 = j8, getL l' 20 = j20, getL l' 21 = j21, getL l' 22 = j22, getL l' 23 = j23, getL l' 24 = j24, getL l' 25 = j25, getL l' 26 = j26, getL l' 27 = j27, getL l' 28 = j28, getL l' 29 = j29, getL l' 30 = j30, getL l' 31 = j31, getL l' 32 = j32, getL l' 33 = j33, getL l' 34 = j34, getL l' 35 = j35, getL l' 36 = j36, getL l' 37 = j37, getL l' 38 = j38, getL l' 39 = j39, getL l' 40 = j40, getL l' 41 = j41, getL l' 42 = j42, getL l' 43 = j43, getL l' 44 = j44, getL l' 45 = j45, getL l' 46 = j46, getL l' 47 = j47, getL l' 48 = j48, getL l' 49 = j49, getL l' 50 = j50, getL l' 51 = j51, getL l' 52 = j52, getL l' 53 = j53, getL l' 54 = j54, getL l' 55 = j55 at hl
        subst hl
        cases kf with
        | zero => simp [spec_ApplyDiff.l1] at H
        | succ kf =>
          rw [spec_ApplyDiff.l1] at H
          refine HT_seq_k ?_
          intro K735 hK735
          refine HT_region ?_
          refine HL_cons rfl ?_
          refine o_bin rfl rfl rfl ?_
          try dsimp only [putL, setL, evL, getL]
          refine HL_nil ?_
          refine hK735 _ _ ?_
          refine HT_seq_k ?_
          intro K736 hK736
          rcases Bool.eq_false_or_eq_true (decide (x593 < (p1.length : Int))) with hb737 | hb737
          · replace H := iteT hb737 H
            refine HT_true (congrArg Value.bool hb737) ?_
            refine HT_skip ?_
            refine hK736 _ _ ?_
            refine joinH H fun G738 hG738 H => ?_
            refine HT_joinK (fun l' s' => ∃ (x804 : List (Int)) (A804 : Option Addr) (c804 : Nat) (x805 : List (Int)) (A805 : Option Addr) (c805 : Nat), G738 (.go (x804, x805)) = some r ∧ l' = [.slice A804 x804.length c804, .slice A1p p1.length c1p, undef, undef, getL l' 4, getL l' 5, .slice A805 x805.length c805, undef, getL l' 8, j9, j10, j11, j12, j13, j14, j15, .bool x19, .slice A1p p1.length c1p, .int .i64 (p1.length : Int), .int .i64 x593, .bool (decide (x593 < (p1.length : Int))), getL l' 21, getL l' 22, getL l' 23, getL l' 24, getL l' 25, getL l' 26, getL l' 27, getL l' 28, getL l' 29, getL l' 30, getL l' 31, getL l' 32, getL l' 33, getL l' 34, getL l' 35, getL l' 36, getL l' 37, getL l' 38, getL l' 39, getL l' 40, getL l' 41, getL l' 42, getL l' 43, getL l' 44, getL l' 45, getL l' 46, getL l' 47, getL l' 48, getL l' 49, getL l' 50, getL l' 51, getL l' 52, getL l' 53, getL l' 54, j55, undef, undef, undef, undef, undef, undef, undef, undef, undef] ∧ Hp sb s F0 s' [Ck.ol OI 3 A805 c805 x805] ∧ Rd KI sb A804 c804 x804) ?_ ?_
            · intro K738 hK738
              refine HT_block ?_
              refine HT_seq_k ?_
              intro K806 hK806
              refine HT_region ?_
              replace H := headE H
              obtain ⟨u807, hu807, H⟩ := H
              obtain ⟨b807, o807, cs807, hr807, hh807, hel807⟩ := Rd.elb HRp1 hu807
              obtain ⟨_, _, rfl, rfl, ⟨A808, c808, rfl, D808⟩⟩ := hr807
              refine HL_cons rfl ?_
              refine hel807 s734 rfl rfl Try.underlying85 tI170 ?_
              try dsimp only [putL, setL, evL, getL]
              refine HL_cons rfl ?_
              refine o_loads' [.int .i64 u807.1, .slice A808 u807.2.length c808] rfl Try.underlying170 rfl tI170 rfl (fun j v hj => (hh807 hH.bs.mono) j v hj) ?_
              try dsimp only [putL, setL, evL, getL]
              refine HL_cons rfl ?_
              refine o_allocH hH tI170 ?_
              intro b809 s809 hH' hG
              replace hH : Hp sb s F0 s809 [Ck.ol OI 3 A592 c592 x592, Ck.ov b809 [.int .i64 0, .slice none 0 0] 170] := hH'
              clear hH' hG
              try dsimp only [putL, setL, evL, getL]
              refine HL_cons rfl ?_
              refine o_stvH (vs := [.int .i64 u807.1, .slice A808 u807.2.length c808]) (us' := [.int .i64 u807.1, .slice A808 u807.2.length c808]) hH 1 rfl rfl rfl rfl rfl tI170 rfl (List.cons_ne_nil _ _) rfl rfl rfl ?_
              intro s810 hH'
              replace hH : Hp sb s F0 s810 [Ck.ol OI 3 A592 c592 x592, Ck.ov b809 [.int .i64 u807.1, .slice A808 u807.2.length c808] 170] := hH'
              clear hH'
              try dsimp only [putL, setL, evL, getL]
              refine HL_nil ?_
              refine hK806 _ _ ?_
              refine joinH H fun G811 hG811 H => ?_
              refine HT_joinK (fun l' s' => ∃ (x839 : List (Int)) (A839 : Option Addr) (c839 : Nat), G811 (.go x839) = some r ∧ l' = [.slice A839 x839.length c839, .slice A1p p1.length c1p, undef, undef, getL l' 4, getL l' 5, .slice A592 x592.length c592, undef, .pointer (some ⟨b809, 0, none⟩), j9, j10, j11, j12, j13, j14, j15, .bool x19, .slice A1p p1.length c1p, .int .i64 (p1.length : Int), .int .i64 x593, .bool (decide (x593 < (p1.length : Int))), .pointer (some ⟨b807, o807, none⟩), .agg #[.int .i64 u807.1, .slice A808 u807.2.length c808], getL l' 23, getL l' 24, getL l' 25, getL l' 26, getL l' 27, getL l' 28, getL l' 29, getL l' 30, getL l' 31, getL l' 32, getL l' 33, getL l' 34, getL l' 35, getL l' 36, getL l' 37, getL l' 38, getL l' 39, getL l' 40, getL l' 41, getL l' 42, getL l' 43, getL l' 44, getL l' 45, getL l' 46, getL l' 47, j48, j49, j50, j51, j52, j53, j54, j55, undef, undef, undef, undef, undef, undef, undef, undef, undef] ∧ Hp sb s F0 s' [Ck.ol OI 3 A592 c592 x592, Ck.ov b809 [.int .i64 u807.1, .slice A808 u807.2.length c808] 170] ∧ Rd KI sb A839 c839 x839) ?_ ?_
              · intro K811 hK811
                refine HT_seq_k ?_
                intro K840 hK840
                refine HT_region ?_
                refine HL_cons rfl ?_
                refine o_faddr' (ft := 3) (off := 0) rfl Try.underlying170 rfl tI3 (by decide) ?_
                try dsimp only [putL, setL, evL, getL]
                refine HL_cons rfl ?_
                refine o_load' rfl Try.underlying3 rfl (hH.hasv 1 rfl rfl) ?_
                try dsimp only [putL, setL, evL, getL]
                refine HL_cons rfl ?_
                refine o_bin rfl rfl rfl ?_
                try dsimp only [putL, setL, evL, getL]
                refine HL_nil ?_
                refine hK840 _ _ ?_
                rcases Bool.eq_false_or_eq_true (u807.1 != 3) with hb841 | hb841
                · replace H := iteT hb841 H
                  refine HT_true (congrArg Value.bool hb841) ?_
                  refine HT_seq_k ?_
                  intro K854 hK854
                  refine joinH H fun G855 hG855 H => ?_
                  refine HT_joinK (fun l' s' => ∃ (x859 : Bool), G855 x859 = some r ∧ l' = [.slice A591 x591.length c591, .slice A1p p1.length c1p, undef, undef, j4, j5, .slice A592 x592.length c592, undef, .pointer (some ⟨b809, 0, none⟩), j9, j10, j11, j12, j13, j14, j15, .bool x19, .slice A1p p1.length c1p, .int .i64 (p1.length : Int), .int .i64 x593, .bool (decide (x593 < (p1.length : Int))), .pointer (some ⟨b807, o807, none⟩), .agg #[.int .i64 u807.1, .slice A808 u807.2.length c808], .pointer (some ⟨b809, 0 + 0, none⟩), .int .i64 u807.1, .bool (u807.1 != 3), getL l' 26, getL l' 27, getL l' 28, getL l' 29, getL l' 30, getL l' 31, getL l' 32, getL l' 33, getL l' 34, getL l' 35, getL l' 36, getL l' 37, getL l' 38, getL l' 39, getL l' 40, getL l' 41, .bool x859, j43, j44, j45, j46, j47, j48, j49, j50, j51, j52, j53, j54, j55, undef, undef, undef, undef, undef, undef, undef, undef, undef] ∧ Hp sb s F0 s' [Ck.ol OI 3 A592 c592 x592, Ck.ov b809 [.int .i64 u807.1, .slice A808 u807.2.length c808] 170]) ?_ ?_
                  · intro K855 hK855
                    refine HX_draw hMix ?_
                    refine HX_lim (R := fun _ => True) (k := 0) (fun s' => Gro s810 s') 18 ?_
                    have hR := Gro.refl s810
                    have hH0 := hH
                    refine HK_readP 0 (v := .pointer (some ⟨b809, 0 + 1, none⟩)) rfl (by kernel_rfl) (fun c l s h => hQp c l s h) rfl (fun s' K hK => ?_) rfl rfl (fun _ => hR) ?_
                    · refine o_faddr' (ft := 24) (off := 1) rfl Try.underlying170 rfl tI24 (by decide) ?_
                      exact hK
                    try dsimp only [putL, setL, evL, getL]
                    refine HK_read 1 (v := .slice A808 u807.2.length c808) rfl (by kernel_rfl) (fun c l s h => hQp c l s h) rfl (fun s' hR' K hK => ?_) rfl rfl hR ?_
                    · refine o_load' rfl Try.underlying24 rfl (has_gro hR' (hH0.hasv 1 rfl rfl)) ?_
                      exact hK
                    try dsimp only [putL, setL, evL, getL]
                    refine HK_readP 2 (v := .int .i64 (u807.2.length : Int)) rfl (by kernel_rfl) (fun c l s h => hQp c l s h) rfl (fun s' K hK => ?_) rfl rfl (fun _ => hR) ?_
                    · refine o_len rfl Try.underlying24 ?_
                      exact hK
                    try dsimp only [putL, setL, evL, getL]
                    refine HK_readP 3 (v := .slice A591 x591.length c591) rfl (by kernel_rfl) (fun c l s h => hQp c l s h) rfl (fun s' K hK => ?_) rfl rfl (fun _ => hR) ?_
                    · refine o_move ?_
                      exact hK
                    try dsimp only [putL, setL, evL, getL]
                    refine HK_readP 4 (v := .int .i64 (x591.length : Int)) rfl (by kernel_rfl) (fun c l s h => hQp c l s h) rfl (fun s' K hK => ?_) rfl rfl (fun _ => hR) ?_
                    · refine o_len rfl Try.underlying24 ?_
                      exact hK
                    try dsimp only [putL, setL, evL, getL]
                    refine HK_readP 5 (v := .bool (decide ((u807.2.length : Int) > (x591.length : Int)))) rfl (by kernel_rfl) (fun c l s h => hQp c l s h) rfl (fun s' K hK => ?_) rfl rfl (fun _ => hR) ?_
                    · refine o_bin rfl rfl rfl ?_
                      exact hK
                    try dsimp only [putL, setL, evL, getL]
                    refine HK_readP 6 (v := .bool (decide ((u807.2.length : Int) > (x591.length : Int)))) rfl (by kernel_rfl) (fun c l s h => hQp c l s h) rfl (fun s' K hK => ?_) rfl rfl (fun _ => hR) ?_
                    · refine o_move ?_
                      exact hK
                    try dsimp only [putL, setL, evL, getL]
                    rcases Bool.eq_false_or_eq_true (decide ((u807.2.length : Int) > (x591.length : Int))) with hb860 | hb860
                    · replace H := iteT hb860 H
                      refine HK_passP 7 rfl (by kernel_rfl) (fun c l s h => hQp c l s h) ?_ (fun _ => hR) ?_
                      · exact wantF (j := 6) (b := false) (t := 32) (c := decide ((u807.2.length : Int) > (x591.length : Int))) rfl rfl rfl rfl hb860
                      try dsimp only [putL, setL, evL, getL]
                      refine HK_passP 8 rfl (by kernel_rfl) (fun c l s h => hQp c l s h) ?_ (fun _ => hR) ?_
                      · exact wantF (j := 6) (b := false) (t := 32) (c := decide ((u807.2.length : Int) > (x591.length : Int))) rfl rfl rfl rfl hb860
                      try dsimp only [putL, setL, evL, getL]
                      refine HK_passP 9 rfl (by kernel_rfl) (fun c l s h => hQp c l s h) ?_ (fun _ => hR) ?_
                      · exact wantF (j := 6) (b := false) (t := 32) (c := decide ((u807.2.length : Int) > (x591.length : Int))) rfl rfl rfl rfl hb860
                      try dsimp only [putL, setL, evL, getL]
                      refine HK_passP 10 rfl (by kernel_rfl) (fun c l s h => hQp c l s h) ?_ (fun _ => hR) ?_
                      · exact wantF (j := 6) (b := false) (t := 32) (c := decide ((u807.2.length : Int) > (x591.length : Int))) rfl rfl rfl rfl hb860
                      try dsimp only [putL, setL, evL, getL]
                      refine HK_passP 11 rfl (by kernel_rfl) (fun c l s h => hQp c l s h) ?_ (fun _ => hR) ?_
                      · exact wantF (j := 6) (b := false) (t := 32) (c := decide ((u807.2.length : Int) > (x591.length : Int))) rfl rfl rfl rfl hb860
                      try dsimp only [putL, setL, evL, getL]
                      refine HK_passP 12 rfl (by kernel_rfl) (fun c l s h => hQp c l s h) ?_ (fun _ => hR) ?_
                      · exact wantF (j := 6) (b := false) (t := 32) (c := decide ((u807.2.length : Int) > (x591.length : Int))) rfl rfl rfl rfl hb860
                      try dsimp only [putL, setL, evL, getL]
                      refine HK_passP 13 rfl (by kernel_rfl) (fun c l s h => hQp c l s h) ?_ (fun _ => hR) ?_
                      · exact wantF (j := 6) (b := false) (t := 32) (c := decide ((u807.2.length : Int) > (x591.length : Int))) rfl rfl rfl rfl hb860
                      try dsimp only [putL, setL, evL, getL]
                      refine HK_passP 14 rfl (by kernel_rfl) (fun c l s h => hQp c l s h) ?_ (fun _ => hR) ?_
                      · exact wantF (j := 6) (b := false) (t := 32) (c := decide ((u807.2.length : Int) > (x591.length : Int))) rfl rfl rfl rfl hb860
                      try dsimp only [putL, setL, evL, getL]
                      refine HK_passP 15 rfl (by kernel_rfl) (fun c l s h => hQp c l s h) ?_ (fun _ => hR) ?_
                      · exact wantF (j := 6) (b := false) (t := 32) (c := decide ((u807.2.length : Int) > (x591.length : Int))) rfl rfl rfl rfl hb860
                      try dsimp only [putL, setL, evL, getL]
                      refine HK_readP 16 (v := .bool true) rfl (by kernel_rfl) (fun c l s h => hQp c l s h) rfl (fun s' K hK => ?_) rfl rfl (fun _ => hR) ?_
                      · refine o_pickT rfl hb860 ?_
                        exact hK
                      try dsimp only [putL, setL, evL, getL]
                      refine HK_done (fun _ => hR) (by kernel_rfl) ?_
                      exact hK855 _ _ ⟨true, H, rfl, hH⟩
                    · replace H := iteF hb860 H
                      refine HK_readP 7 (v := .slice A591 x591.length c591) rfl (by kernel_rfl) (fun c l s h => hQp c l s h) (wantT (j := 6) (b := false) (t := 32) (c := decide ((u807.2.length : Int) > (x591.length : Int))) rfl rfl rfl rfl hb860) (fun s' K hK => ?_) rfl rfl (fun _ => hR) ?_
                      · refine o_move ?_
                        exact hK
                      try dsimp only [putL, setL, evL, getL]
                      refine HK_readP 8 (v := .pointer (some ⟨b809, 0 + 1, none⟩)) rfl (by kernel_rfl) (fun c l s h => hQp c l s h) (wantT (j := 6) (b := false) (t := 32) (c := decide ((u807.2.length : Int) > (x591.length : Int))) rfl rfl rfl rfl hb860) (fun s' K hK => ?_) rfl rfl (fun _ => hR) ?_
                      · refine o_faddr' (ft := 24) (off := 1) rfl Try.underlying170 rfl tI24 (by decide) ?_
                        exact hK
                      try dsimp only [putL, setL, evL, getL]
                      refine HK_read 9 (v := .slice A808 u807.2.length c808) rfl (by kernel_rfl) (fun c l s h => hQp c l s h) (wantT (j := 6) (b := false) (t := 32) (c := decide ((u807.2.length : Int) > (x591.length : Int))) rfl rfl rfl rfl hb860) (fun s' hR' K hK => ?_) rfl rfl hR ?_
                      · refine o_load' rfl Try.underlying24 rfl (has_gro hR' (hH0.hasv 1 rfl rfl)) ?_
                        exact hK
                      try dsimp only [putL, setL, evL, getL]
                      refine HK_readP 10 (v := .int .i64 (u807.2.length : Int)) rfl (by kernel_rfl) (fun c l s h => hQp c l s h) (wantT (j := 6) (b := false) (t := 32) (c := decide ((u807.2.length : Int) > (x591.length : Int))) rfl rfl rfl rfl hb860) (fun s' K hK => ?_) rfl rfl (fun _ => hR) ?_
                      · refine o_len rfl Try.underlying24 ?_
                        exact hK
                      try dsimp only [putL, setL, evL, getL]
                      replace H := headE H
                      obtain ⟨x861, hx861, H⟩ := H
                      refine HK_readP 11 (v := .slice (cutA A591 c591 (Int.toNat 0) (Kd.sz KI)) x861.length (c591 - Int.toNat 0)) rfl (by kernel_rfl) (fun c l s h => hQp c l s h) (wantT (j := 6) (b := false) (t := 32) (c := decide ((u807.2.length : Int) > (x591.length : Int))) rfl rfl rfl rfl hb860) (fun s' K hK => ?_) rfl rfl (fun _ => hR) ?_
                      · refine o_cutA (xs := x591) (kl := .i64) (kh := .i64) (L := 0) (H := (u807.2.length : Int)) rfl rfl rfl Try.underlying24 tI3 D591.1 hx861 ?_
                        exact hK
                      have D861 := D591.cut hx861
                      try dsimp only [putL, setL, evL, getL]
                      refine HK_readP 12 (v := .pointer (some ⟨b809, 0 + 1, none⟩)) rfl (by kernel_rfl) (fun c l s h => hQp c l s h) (wantT (j := 6) (b := false) (t := 32) (c := decide ((u807.2.length : Int) > (x591.length : Int))) rfl rfl rfl rfl hb860) (fun s' K hK => ?_) rfl rfl (fun _ => hR) ?_
                      · refine o_faddr' (ft := 24) (off := 1) rfl Try.underlying170 rfl tI24 (by decide) ?_
                        exact hK
                      try dsimp only [putL, setL, evL, getL]
                      refine HK_read 13 (v := .slice A808 u807.2.length c808) rfl (by kernel_rfl) (fun c l s h => hQp c l s h) (wantT (j := 6) (b := false) (t := 32) (c := decide ((u807.2.length : Int) > (x591.length : Int))) rfl rfl rfl rfl hb860) (fun s' hR' K hK => ?_) rfl rfl hR ?_
                      · refine o_load' rfl Try.underlying24 rfl (has_gro hR' (hH0.hasv 1 rfl rfl)) ?_
                        exact hK
                      try dsimp only [putL, setL, evL, getL]
                      refine HK_more [14] (by kernel_rfl) rfl (fun _ => hR) ⟨⟨_, rfl, Or.inl ⟨(wantT (j := 6) (b := false) (t := 32) (c := decide ((u807.2.length : Int) > (x591.length : Int))) rfl rfl rfl rfl hb860), ?_⟩⟩, trivial⟩
                      replace H := headE H
                      obtain ⟨u862, hu862, H⟩ := H
                      skip
                      refine o_call (args := #[.slice (cutA A591 c591 (Int.toNat 0) (Kd.sz KI)) x861.length (c591 - Int.toNat 0), .slice A808 u807.2.length c808]) Try.func165 rfl rfl rfl (spec_l1Same.ok sb s810 no (cutA A591 c591 (Int.toNat 0) (Kd.sz KI)) (c591 - Int.toNat 0) x861 A808 c808 u807.2 D861 D808 (Hp.own hH.bs) _ hu862) ?_
                      rintro _ s862 ⟨rfl, hD⟩
                      replace hR := hR.trans hD.gro
                      replace hH := hH.back0 hD (Up.refl _ _ _)
                      clear hD
                      dsimp only [addC, setC, rmC, selC, getC] at hH
                      try dsimp only [putL, setL, evL, getL]
                      refine HK_readP 15 (v := .bool (!u862)) rfl (by kernel_rfl) (fun c l s h => hQp c l s h) (wantT (j := 6) (b := false) (t := 32) (c := decide ((u807.2.length : Int) > (x591.length : Int))) rfl rfl rfl rfl hb860) (fun s' K hK => ?_) rfl rfl (fun _ => hR) ?_
                      · refine o_not rfl ?_
                        exact hK
                      try dsimp only [putL, setL, evL, getL]
                      refine HK_readP 16 (v := .bool (!u862)) rfl (by kernel_rfl) (fun c l s h => hQp c l s h) rfl (fun s' K hK => ?_) rfl rfl (fun _ => hR) ?_
                      · refine o_pickF rfl hb860 ?_
                        exact hK
                      try dsimp only [putL, setL, evL, getL]
                      refine HK_done (fun _ => hR) (by kernel_rfl) ?_
                      exact hK855 _ _ ⟨!u862, H, rfl, hH⟩
                  · rintro l' s863 ⟨x859, H, hl, hH⟩
                    generalize getL l' 26 = j26, getL l' 27 = j27, getL l' 28 = j28, getL l' 29 = j29, getL l' 30 = j30, getL l' 31 = j31, getL l' 32 = j32, getL l' 33 = j33, getL l' 34 = j34, getL l' 35 = j35, getL l' 36 = j36, getL l' 37 = j37, getL l' 38 = j38, getL l' 39 = j39, getL l' 40 = j40, getL l' 41 = j41 at hl
                    subst hl
                    replace H := hG855 _ H
                    try dsimp only at H
                    rcases Bool.eq_false_or_eq_true x859 with hb864 | hb864
                    · replace H := iteT hb864 H
                      refine HT_true (congrArg Value.bool hb864) ?_
                      refine HT_seq_k ?_
                      intro K865 hK865
                      refine HT_region ?_
                      refine HL_cons rfl ?_
                      refine o_assign ?_
                      try dsimp only [putL, setL, evL, getL]
                      refine HL_cons rfl ?_
                      refine o_assign ?_
                      try dsimp only [putL, setL, evL, getL]
                      refine HL_nil ?_
                      refine hK865 _ _ ?_
                      refine HT_ret ?_
                      replace H := escH (fun z hz => hG811 _ hz) H
                      replace H := escH (fun z hz => hG738 _ hz) H
                      replace H := escH (fun z hz => hG29 _ hz) H
                      exact hQr _ _ [.slice none 0 0, .bool false] ⟨rfl, rfl, trivial⟩ (retH (fun r => spec_ApplyDiff.post sb s F0 r _ _) (show some _ = some r from H) ⟨none, 0, rfl, (hH.nil (K := KI) OI 3).sel [2] (by decide)⟩)
                    · replace H := iteF hb864 H
                      refine HT_false (congrArg Value.bool hb864) ?_
                      refine HT_skip ?_
                      refine hK854 _ _ ?_
                      refine HT_region ?_
                      refine HL_cons rfl ?_
                      refine o_move ?_
                      try dsimp only [putL, setL, evL, getL]
                      refine HL_cons rfl ?_
                      refine o_faddr' (ft := 24) (off := 1) rfl Try.underlying170 rfl tI24 (by decide) ?_
                      try dsimp only [putL, setL, evL, getL]
                      refine HL_cons rfl ?_
                      refine o_load' rfl Try.underlying24 rfl (hH.hasv 1 rfl rfl) ?_
                      try dsimp only [putL, setL, evL, getL]
                      refine HL_cons rfl ?_
                      refine o_len rfl Try.underlying24 ?_
                      try dsimp only [putL, setL, evL, getL]
                      replace H := headE H
                      obtain ⟨x866, hx866, H⟩ := H
                      refine HL_cons rfl ?_
                      refine o_cutA (xs := x591) (kl := .i64) (kh := .i64) (L := (u807.2.length : Int)) (H := (x591.length : Int)) rfl rfl rfl Try.underlying24 tI3 D591.1 hx866 ?_
                      have D866 := D591.cut hx866
                      try dsimp only [putL, setL, evL, getL]
                      refine HL_cons rfl ?_
                      refine o_assign ?_
                      try dsimp only [putL, setL, evL, getL]
                      refine HL_nil ?_
                      exact hK811 _ _ ⟨x866, (cutA A591 c591 (Int.toNat (u807.2.length : Int)) (Kd.sz KI)), c591 - Int.toNat (u807.2.length : Int), H, rfl, hH, D866⟩
                · replace H := iteF hb841 H
                  refine HT_false (congrArg Value.bool hb841) ?_
                  refine HT_skip ?_
                  exact hK811 _ _ ⟨x591, A591, c591, H, rfl, hH, D591⟩
              · rintro l' s867 ⟨x839, A839, c839, H, hl, hH, D839⟩
                generalize getL l' 4 = j4, getL l' 5 = j5, getL l' 23 = j23, getL l' 24 = j24, getL l' 25 = j25, getL l' 26 = j26, getL l' 27 = j27, getL l' 28 = j28, getL l' 29 = j29, getL l' 30 = j30, getL l' 31 = j31, getL l' 32 = j32, getL l' 33 = j33, getL l' 34 = j34, getL l' 35 = j35, getL l' 36 = j36, getL l' 37 = j37, getL l' 38 = j38, getL l' 39 = j39, getL l' 40 = j40, getL l' 41 = j41, getL l' 42 = j42, getL l' 43 = j43, getL l' 44 = j44, getL l' 45 = j45, getL l' 46 = j46, getL l' 47 = j47 at hl
                subst hl
                replace H := hG811 _ H
                try dsimp only at H
                refine HT_seq_k ?_
                intro K868 hK868
                refine HT_region ?_
                refine HL_cons rfl ?_
                refine o_faddr' (ft := 3) (off := 0) rfl Try.underlying170 rfl tI3 (by decide) ?_
                try dsimp only [putL, setL, evL, getL]
                refine HL_cons rfl ?_
                refine o_load' rfl Try.underlying3 rfl (hH.hasv 1 rfl rfl) ?_
                try dsimp only [putL, setL, evL, getL]
                refine HL_cons rfl ?_
                refine o_bin rfl rfl rfl ?_
                try dsimp only [putL, setL, evL, getL]
                refine HL_nil ?_
                refine hK868 _ _ ?_
                rcases Bool.eq_false_or_eq_true (u807.1 != 2) with hb869 | hb869
                · replace H := iteT hb869 H
                  refine HT_true (congrArg Value.bool hb869) ?_
                  refine HT_region ?_
                  refine HL_cons rfl ?_
                  refine o_move ?_
                  try dsimp only [putL, setL, evL, getL]
                  refine HL_cons rfl ?_
                  refine o_faddr' (ft := 24) (off := 1) rfl Try.underlying170 rfl tI24 (by decide) ?_
                  try dsimp only [putL, setL, evL, getL]
                  refine HL_cons rfl ?_
                  refine o_load' rfl Try.underlying24 rfl (hH.hasv 1 rfl rfl) ?_
                  try dsimp only [putL, setL, evL, getL]
                  replace H := headE H
                  obtain ⟨x870, hx870, H⟩ := H
                  refine HL_cons rfl ?_
                  refine o_appF (K := KI) (n := 17592186044416) (A := A592) (c := c592) (xs := x592) (ys := u807.2) (B := A808) (c2 := c808) hH 0 rfl rfl rfl rfl Try.underlying24 tI3 rfl (by decide) (by decide) (by decide) (Src.flat (D808.mono hH.bs.mono)) hx870 ?_
                  intro A870 c870 s870 hH'
                  replace hH : Hp sb s F0 s870 [Ck.ol OI 3 A870 c870 x870, Ck.ov b809 [.int .i64 u807.1, .slice A808 u807.2.length c808] 170] := hH'
                  clear hH'
                  try dsimp only [putL, setL, evL, getL]
                  refine HL_cons rfl ?_
                  refine o_assign ?_
                  try dsimp only [putL, setL, evL, getL]
                  refine HL_nil ?_
                  exact hK738 _ _ ⟨x839, A839, c839, x870, A870, c870, H, rfl, hH.sel [0] (by decide), D839⟩
                · replace H := iteF hb869 H
                  refine HT_false (congrArg Value.bool hb869) ?_
                  refine HT_skip ?_
                  exact hK738 _ _ ⟨x839, A839, c839, x592, A592, c592, H, rfl, hH.sel [0] (by decide), D839⟩
            · rintro l' s871 ⟨x804, A804, c804, x805, A805, c805, H, hl, hH, D804⟩
              generalize getL l' 4 = j4, getL l' 5 = j5, getL l' 8 = j8, getL l' 21 = j21, getL l' 22 = j22, getL l' 23 = j23, getL l' 24 = j24, getL l' 25 = j25, getL l' 26 = j26, getL l' 27 = j27, getL l' 28 = j28, getL l' 29 = j29, getL l' 30 = j30, getL l' 31 = j31, getL l' 32 = j32, getL l' 33 = j33, getL l' 34 = j34, getL l' 35 = j35, getL l' 36 = j36, getL l' 37 = j37, getL l' 38 = j38, getL l' 39 = j39, getL l' 40 = j40, getL l' 41 = j41, getL l' 42 = j42, getL l' 43 = j43, getL l' 44 = j44, getL l' 45 = j45, getL l' 46 = j46, getL l' 47 = j47, getL l' 48 = j48, getL l' 49 = j49, getL l' 50 = j50, getL l' 51 = j51, getL l' 52 = j52, getL l' 53 = j53, getL l' 54 = j54 at hl
              subst hl
              replace H := hG738 _ H
              try dsimp only at H
              refine HT_region ?_
              refine HL_cons rfl ?_
              refine o_bin rfl rfl rfl ?_
              try dsimp only [putL, setL, evL, getL]
              refine HL_cons rfl ?_
              refine o_move ?_
              try dsimp only [putL, setL, evL, getL]
              refine HL_nil ?_
              exact hK734 _ _ ⟨kf, Nat.lt_succ_self kf, x804, A804, c804, x805, A805, c805, IntKind.i64.wrap (x593 + 1), H, rfl, hH, D804⟩
          · replace H := iteF hb737 H
            refine HT_false (congrArg Value.bool hb737) ?_
            refine HT_exit ?_
            exact hK29 _ _ ⟨x591, A591, c591, x592, A592, c592, H, rfl, hH, D591⟩
      · rintro l' s872 ⟨x450, A450, c450, x451, A451, c451, H, hl, hH, D450⟩
        generalize getL l' 4 = j4, getL l' 5 = j5, getL l' 8 = j8, getL l' 19 = j19, getL l' 20 = j20, getL l' 21 = j21, getL l' 22 = j22, getL l' 23 = j23, getL l' 24 = j24, getL l' 25 = j25, getL l' 26 = j26, getL l' 27 = j27, getL l' 28 = j28, getL l' 29 = j29, getL l' 30 = j30, getL l' 31 = j31, getL l' 32 = j32, getL l' 33 = j33, getL l' 34 = j34, getL l' 35 = j35, getL l' 36 = j36, getL l' 37 = j37, getL l' 38 = j38, getL l' 39 = j39, getL l' 40 = j40, getL l' 41 = j41, getL l' 42 = j42, getL l' 43 = j43, getL l' 44 = j44, getL l' 45 = j45, getL l' 46 = j46, getL l' 47 = j47, getL l' 48 = j48, getL l' 49 = j49, getL l' 50 = j50, getL l' 51 = j51, getL l' 52 = j52, getL l' 53 = j53, getL l' 54 = j54, getL l' 55 = j55 at hl
        subst hl
        replace H := hG29 _ H
        try dsimp only at H
        refine hK27 _ _ ?_
        refine HT_seq_k ?_
        intro K881 hK881
        refine joinH H fun G882 hG882 H => ?_
        refine HT_joinK (fun l' s' => ∃ (x884 : Bool), G882 x884 = some r ∧ l' = [.slice A450 x450.length c450, .slice A1p p1.length c1p, undef, undef, j4, j5, .slice A451 x451.length c451, undef, j8, j9, j10, j11, j12, j13, j14, j15, .bool x19, .slice A1p p1.length c1p, .int .i64 (p1.length : Int), j19, j20, j21, j22, j23, j24, j25, j26, j27, j28, j29, j30, j31, j32, j33, j34, j35, j36, j37, j38, j39, j40, j41, j42, j43, j44, j45, j46, j47, j48, j49, j50, j51, j52, j53, j54, j55, getL l' 56, getL l' 57, getL l' 58, getL l' 59, getL l' 60, getL l' 61, getL l' 62, .bool x884, undef] ∧ Hp sb s F0 s' [Ck.ol OI 3 A451 c451 x451]) ?_ ?_
        · intro K882 hK882
          refine HT_region ?_
          refine HL_cons rfl ?_
          refine o_move ?_
          try dsimp only [putL, setL, evL, getL]
          refine HL_cons rfl ?_
          refine o_len rfl Try.underlying24 ?_
          try dsimp only [putL, setL, evL, getL]
          refine HL_cons rfl ?_
          refine o_bin rfl rfl rfl ?_
          try dsimp only [putL, setL, evL, getL]
          refine HL_cons rfl ?_
          refine o_move ?_
          try dsimp only [putL, setL, evL, getL]
          rcases Bool.eq_false_or_eq_true (decide ((x450.length : Int) > 0)) with hb885 | hb885
          · replace H := iteT hb885 H
            refine HL_skip ?_ ?_
            · exact wantF (j := 3) (b := false) (t := 59) (c := decide ((x450.length : Int) > 0)) rfl rfl rfl rfl hb885
            try dsimp only [putL, setL, evL, getL]
            refine HL_skip ?_ ?_
            · exact wantF (j := 3) (b := false) (t := 59) (c := decide ((x450.length : Int) > 0)) rfl rfl rfl rfl hb885
            try dsimp only [putL, setL, evL, getL]
            refine HL_skip ?_ ?_
            · exact wantF (j := 3) (b := false) (t := 59) (c := decide ((x450.length : Int) > 0)) rfl rfl rfl rfl hb885
            try dsimp only [putL, setL, evL, getL]
            refine HL_cons rfl ?_
            refine o_pickT rfl hb885 ?_
            try dsimp only [putL, setL, evL, getL]
            refine HL_nil ?_
            exact hK882 _ _ ⟨true, H, rfl, hH⟩
          · replace H := iteF hb885 H
            refine HL_want ?_ ?_
            · exact wantT (j := 3) (b := false) (t := 59) (c := decide ((x450.length : Int) > 0)) rfl rfl rfl rfl hb885
            refine o_move ?_
            try dsimp only [putL, setL, evL, getL]
            refine HL_want ?_ ?_
            · exact wantT (j := 3) (b := false) (t := 59) (c := decide ((x450.length : Int) > 0)) rfl rfl rfl rfl hb885
            refine o_len rfl Try.underlying24 ?_
            try dsimp only [putL, setL, evL, getL]
            refine HL_want ?_ ?_
            · exact wantT (j := 3) (b := false) (t := 59) (c := decide ((x450.length : Int) > 0)) rfl rfl rfl rfl hb885
            refine o_bin rfl rfl rfl ?_
            try dsimp only [putL, setL, evL, getL]
            refine HL_cons rfl ?_
            refine o_pickF rfl hb885 ?_
            try dsimp only [putL, setL, evL, getL]
            refine HL_nil ?_
            exact hK882 _ _ ⟨decide ((x451.length : Int) > 60), H, rfl, hH⟩
        · rintro l' s886 ⟨x884, H, hl, hH⟩
          generalize getL l' 56 = j56, getL l' 57 = j57, getL l' 58 = j58, getL l' 59 = j59, getL l' 60 = j60, getL l' 61 = j61, getL l' 62 = j62 at hl
          subst hl
          replace H := hG882 _ H
          try dsimp only at H
          rcases Bool.eq_false_or_eq_true x884 with hb887 | hb887
          · replace H := iteT hb887 H
            refine HT_true (congrArg Value.bool hb887) ?_
            refine HT_seq_k ?_
            intro K888 hK888
            refine HT_region ?_
            refine HL_cons rfl ?_
            refine o_assign ?_
            try dsimp only [putL, setL, evL, getL]
            refine HL_cons rfl ?_
            refine o_assign ?_
            try dsimp only [putL, setL, evL, getL]
            refine HL_nil ?_
            refine hK888 _ _ ?_
            refine HT_ret ?_
            exact hQr _ _ [.slice none 0 0, .bool false] ⟨rfl, rfl, trivial⟩ (retH (fun r => spec_ApplyDiff.post sb s F0 r _ _) (show some _ = some r from H) ⟨none, 0, rfl, (hH.nil (K := KI) OI 3).sel [1] (by decide)⟩)
          · replace H := iteF hb887 H
            refine HT_false (congrArg Value.bool hb887) ?_
            refine HT_skip ?_
            refine hK881 _ _ ?_
            refine HT_seq_k ?_
            intro K889 hK889
            refine HT_region ?_
            refine HL_cons rfl ?_
            refine o_move ?_
            try dsimp only [putL, setL, evL, getL]
            refine HL_cons rfl ?_
            refine o_assign ?_
            try dsimp only [putL, setL, evL, getL]
            refine HL_cons rfl ?_
            refine o_assign ?_
            try dsimp only [putL, setL, evL, getL]
            refine HL_nil ?_
            refine hK889 _ _ ?_
            refine HT_ret ?_
            exact hQr _ _ [.slice A451 x451.length c451, .bool true] ⟨rfl, rfl, trivial⟩ (retH (fun r => spec_ApplyDiff.post sb s F0 r _ _) (show some _ = some r from H) ⟨A451, c451, rfl, hH⟩)
def spec_DrawTurnDiff.f (p0 : List (Int)) : Option (List ((Int) × (List (Int)))) := (spec_l1Cur_edits.f p0 0 0).bind fun u5 => some u5.2.1
def spec_DrawTurnDiff.post (sb s : St) (F0 : Fp) (r : (List ((Int) × (List (Int))))) : Value → St → Prop := fun v s' => ∃ (A0 : Option Addr) (c0 : Nat), v = .slice A0 r.length c0 ∧ Hp sb s F0 s' [Ck.ol OS170 170 A0 c0 r]
set_option maxRecDepth 100000 in
set_option maxHeartbeats 4000000 in
theorem spec_DrawTurnDiff.ok (sb s : St) (F0 : Fp) (A0p : Option Addr) (c0p : Nat) (p0 : List (Int)) (HRp0 : Rd (Kd.int .u8) sb A0p c0p p0) (hH : Hp sb s F0 s []) (r : (List ((Int) × (List (Int))))) (H : spec_DrawTurnDiff.f p0 = some r) : GCall Try.prog 76 #[.slice A0p p0.length c0p] s (spec_DrawTurnDiff.post sb s F0 r) := by
  refine GCall_ofk [.tmp 2] [.slice A0p p0.length c0p, undef, undef, undef, undef, undef, undef, undef, undef, undef, undef, undef, undef, undef, undef] Try.func76 rfl rfl rfl ?_
  intro w Q hQr hQn hQp
  replace H := topE H
  unfold spec_DrawTurnDiff.f at H
  refine HT_seq_k ?_
  intro K1 hK1
  refine HT_region ?_
  refine HL_cons rfl ?_
  refine o_assign ?_
  try dsimp only [putL, setL, evL, getL]
  refine HL_nil ?_
  refine hK1 _ _ ?_
  refine HT_seq_k ?_
  intro K2 hK2
  refine HT_region ?_
  refine HL_cons rfl ?_
  refine o_move ?_
  try dsimp only [putL, setL, evL, getL]
  refine HL_cons rfl ?_
  refine o_build (pl := [(0, 1), (1, 1), (2, 1)]) (cs := #[.slice A0p p0.length c0p, .int .i64 0, .int .u64 0]) Try.underlying113 tI113 (by kernel_rfl) (by kernel_rfl) rfl ?_
  try dsimp only [putL, setL, evL, getL]
  refine HL_cons rfl ?_
  refine o_boxH hH rfl ?_
  intro b3 s3 hH' hG
  replace hH : Hp sb s F0 s3 [Ck.ov b3 [.slice A0p p0.length c0p, .int .i64 0, .int .u64 0] 113] := hH'
  clear hH' hG
  try dsimp only [putL, setL, evL, getL]
  refine HL_cons rfl ?_
  refine o_assign ?_
  try dsimp only [putL, setL, evL, getL]
  refine HL_nil ?_
  refine hK2 _ _ ?_
  refine HT_seq_k ?_
  intro K4 hK4
  refine HT_region ?_
  refine HL_cons rfl ?_
  refine o_move ?_
  try dsimp only [putL, setL, evL, getL]
  replace H := headE H
  obtain ⟨u5, hu5, H⟩ := H
  obtain ⟨F1, hA, hB⟩ := hH.take [0] (by decide)
  dsimp only [addC, setC, rmC, selC, getC] at hA
  refine HL_cons rfl ?_
  refine o_call (args := #[.pointer (some ⟨b3, 0, none⟩)]) Try.func163 rfl rfl rfl (spec_l1Cur_edits.ok sb s3 F1 b3 A0p c0p p0 0 0 HRp0 hA _ hu5) ?_
  rintro _ s5 ⟨A6, c6, A7, c7, rfl, hD⟩
  replace hH := hB _ _ _ (Up.refl _ _ _) hD
  clear hD hA hB
  dsimp only [addC, setC, rmC, selC, getC] at hH
  try dsimp only [putL, setL, evL, getL]
  refine HL_cons rfl ?_
  refine o_move ?_
  try dsimp only [putL, setL, evL, getL]
  refine HL_cons rfl ?_
  refine o_extract rfl rfl ?_
  try dsimp only [putL, setL, evL, getL]
  refine HL_cons rfl ?_
  refine o_extract rfl rfl ?_
  try dsimp only [putL, setL, evL, getL]
  refine HL_cons rfl ?_
  refine o_assign ?_
  try dsimp only [putL, setL, evL, getL]
  refine HL_cons rfl ?_
  refine o_assign ?_
  try dsimp only [putL, setL, evL, getL]
  refine HL_nil ?_
  refine hK4 _ _ ?_
  refine HT_seq_k ?_
  intro K8 hK8
  refine HT_region ?_
  refine HL_cons rfl ?_
  refine o_move ?_
  try dsimp only [putL, setL, evL, getL]
  refine HL_cons rfl ?_
  refine o_assign ?_
  try dsimp only [putL, setL, evL, getL]
  refine HL_nil ?_
  refine hK8 _ _ ?_
  refine HT_ret ?_
  exact hQr _ _ [.slice A7 u5.2.1.length c7] ⟨rfl, trivial⟩ (retH (fun r => spec_DrawTurnDiff.post sb s F0 r _ _) (show some _ = some r from H) ⟨A7, c7, rfl, hH.sel [2] (by decide)⟩)
def spec_TurnDiff.l1 (p0 : List ((Int) × (List (Int)))) : Nat → (List ((Int) × (List (Int)))) → Int → Option (List ((Int) × (List (Int))))
  | 0, _, _ => none
  | kf + 1, x177, x178 => if (decide (x178 < (p0.length : Int))) = true then ((rd? p0 x178).bind fun u244 => (if (u244.1 != 1) = true then (some (IntKind.i64.wrap (5 - u244.1))) else (some u244.1)).bind fun (o : Int) => match o with | x252 => ((spec_l1Own.f u244.2).bind fun u256 => (app? 4398046511104 x177 [(x252, u256)]).bind fun x259 => spec_TurnDiff.l1 p0 kf x259 (IntKind.i64.wrap (x178 + 1)))) else (some x177)
def spec_TurnDiff.f (p0 : List ((Int) × (List (Int)))) : Option ((List ((Int) × (List (Int)))) × Bool) := (spec_l15Edits.f p0).bind fun u4 => if (!u4) = true then (some ([], false)) else ((spec_TurnDiff.l1 p0 ((((p0.length : Int)) - (0)).toNat + 2) [] 0).bind fun (o : (List ((Int) × (List (Int))))) => match o with | x135 => (some (x135, true)))
def spec_TurnDiff.post (sb s : St) (F0 : Fp) (r : (List ((Int) × (List (Int)))) × Bool) : Value → St → Prop := fun v s' => ∃ (A0 : Option Addr) (c0 : Nat), v = .tuple #[.slice A0 r.1.length c0, .bool r.2] ∧ Hp sb s F0 s' [Ck.ol OS170 170 A0 c0 r.1]
set_option maxRecDepth 100000 in
set_option maxHeartbeats 4000000 in
theorem spec_TurnDiff.ok (sb s : St) (F0 : Fp) (A0p : Option Addr) (c0p : Nat) (p0 : List ((Int) × (List (Int)))) (HRp0 : Rd KS170 sb A0p c0p p0) (hH : Hp sb s F0 s []) (r : (List ((Int) × (List (Int)))) × Bool) (H : spec_TurnDiff.f p0 = some r) : GCall Try.prog 77 #[.slice A0p p0.length c0p] s (spec_TurnDiff.post sb s F0 r) := by
  refine GCall_ofk [.tmp 2, .tmp 3] [.slice A0p p0.length c0p, undef, undef, undef, undef, undef, undef, undef, undef, undef, undef, undef, undef, undef, undef, undef, undef, undef, undef, undef, undef, undef, undef, undef, undef, undef, undef, undef, undef, undef, undef, undef, undef] Try.func77 rfl rfl rfl ?_
  intro w Q hQr hQn hQp
  replace H := topE H
  unfold spec_TurnDiff.f at H
  refine HT_seq_k ?_
  intro K1 hK1
  refine HT_region ?_
  refine HL_cons rfl ?_
  refine o_assign ?_
  try dsimp only [putL, setL, evL, getL]
  refine HL_cons rfl ?_
  refine o_assign ?_
  try dsimp only [putL, setL, evL, getL]
  refine HL_nil ?_
  refine hK1 _ _ ?_
  refine HT_seq_k ?_
  intro K2 hK2
  refine HT_seq_k ?_
  intro K3 hK3
  refine HT_region ?_
  refine HL_cons rfl ?_
  refine o_move ?_
  try dsimp only [putL, setL, evL, getL]
  replace H := headE H
  obtain ⟨u4, hu4, H⟩ := H
  refine HL_cons rfl ?_
  refine o_call (args := #[.slice A0p p0.length c0p]) Try.func164 rfl rfl rfl (spec_l15Edits.ok sb s no A0p c0p p0 HRp0 (Hp.own hH.bs) _ hu4) ?_
  rintro _ s4 ⟨rfl, hD⟩
  replace hH := hH.back0 hD (Up.refl _ _ _)
  clear hD
  dsimp only [addC, setC, rmC, selC, getC] at hH
  try dsimp only [putL, setL, evL, getL]
  refine HL_cons rfl ?_
  refine o_not rfl ?_
  try dsimp only [putL, setL, evL, getL]
  refine HL_nil ?_
  refine hK3 _ _ ?_
  rcases Bool.eq_false_or_eq_true (!u4) with hb5 | hb5
  · replace H := iteT hb5 H
    refine HT_true (congrArg Value.bool hb5) ?_
    refine HT_seq_k ?_
    intro K6 hK6
    refine HT_region ?_
    refine HL_cons rfl ?_
    refine o_assign ?_
    try dsimp only [putL, setL, evL, getL]
    refine HL_cons rfl ?_
    refine o_assign ?_
    try dsimp only [putL, setL, evL, getL]
    refine HL_nil ?_
    refine hK6 _ _ ?_
    refine HT_ret ?_
    exact hQr _ _ [.slice none 0 0, .bool false] ⟨rfl, rfl, trivial⟩ (retH (fun r => spec_TurnDiff.post sb s F0 r _ _) (show some _ = some r from H) ⟨none, 0, rfl, (hH.nil (K := KS170) OS170 170)⟩)
  · replace H := iteF hb5 H
    refine HT_false (congrArg Value.bool hb5) ?_
    refine HT_skip ?_
    refine hK2 _ _ ?_
    refine HT_seq_k ?_
    intro K7 hK7
    refine HT_region ?_
    refine HL_cons rfl ?_
    refine o_assign ?_
    try dsimp only [putL, setL, evL, getL]
    refine HL_nil ?_
    refine hK7 _ _ ?_
    refine HT_seq_k ?_
    intro K8 hK8
    refine HT_seq_k ?_
    intro K9 hK9
    refine HT_region ?_
    refine HL_cons rfl ?_
    refine o_move ?_
    try dsimp only [putL, setL, evL, getL]
    refine HL_cons rfl ?_
    refine o_len rfl Try.underlying85 ?_
    try dsimp only [putL, setL, evL, getL]
    refine HL_cons rfl ?_
    refine o_move ?_
    try dsimp only [putL, setL, evL, getL]
    refine HL_nil ?_
    refine hK9 _ _ ?_
    refine joinH H fun G10 hG10 H => ?_
    refine HT_toK (fun l' s' => ∃ (x135 : List ((Int) × (List (Int)))) (A135 : Option Addr) (c135 : Nat), G10 x135 = some r ∧ l' = [.slice A0p p0.length c0p, undef, .slice none 0 0, .bool false, .slice A135 x135.length c135, undef, getL l' 6, getL l' 7, .slice A0p p0.length c0p, .bool u4, .bool (!u4), .slice A0p p0.length c0p, .int .i64 (p0.length : Int), getL l' 13, getL l' 14, getL l' 15, getL l' 16, getL l' 17, getL l' 18, getL l' 19, getL l' 20, getL l' 21, getL l' 22, getL l' 23, getL l' 24, getL l' 25, getL l' 26, getL l' 27, getL l' 28, getL l' 29, getL l' 30, getL l' 31, undef] ∧ Hp sb s F0 s' [Ck.ol OS170 170 A135 c135 x135]) ?_ ?_
    · intro K10 hK10
      refine HT_block ?_
      refine HT_loopK (fun kf l' s' => ∃ (x177 : List ((Int) × (List (Int)))) (A177 : Option Addr) (c177 : Nat) (x178 : Int), (spec_TurnDiff.l1 p0 kf x177 x178).bind G10 = some r ∧ l' = [.slice A0p p0.length c0p, undef, .slice none 0 0, .bool false, .slice A177 x177.length c177, undef, getL l' 6, getL l' 7, .slice A0p p0.length c0p, .bool u4, .bool (!u4), .slice A0p p0.length c0p, .int .i64 (p0.length : Int), .int .i64 x178, getL l' 14, getL l' 15, getL l' 16, getL l' 17, getL l' 18, getL l' 19, getL l' 20, getL l' 21, getL l' 22, getL l' 23, getL l' 24, getL l' 25, getL l' 26, getL l' 27, getL l' 28, getL l' 29, getL l' 30, getL l' 31, undef] ∧ Hp sb s F0 s' [Ck.ol OS170 170 A177 c177 x177]) ((((p0.length : Int)) - (0)).toNat + 2) ⟨[], none, 0, 0, H, rfl, (hH.nil (K := KS170) OS170 170)⟩ ?_
      rintro kf l' s220 ⟨x177, A177, c177, x178, H, hl, hH⟩ K220 hK220
      generalize getL l' 6 = j6, getL l' 7 = j7, getL l' 14 = j14, getL l' 15 = j15, getL l' 16 = j16, getL l' 17 = j17, getL l' 18 = j18, getL l' 19 = j19, getL l' 20 = j20, getL l' 21 = j21, getL l' 22 = j22, getL l' 23 = j23, getL l' 24 = j24, getL l' 25 = j25, getL l' 26 = j26, getL l' 27 = j27, getL l' 28 = j28, getL l' 29 = j29, getL l' 30 = j30, getL l' 31 = j31 at hl
      subst hl
      cases kf with
      | zero => simp [spec_TurnDiff.l1] at H
      | succ kf =>
        rw [spec_TurnDiff.l1] at H
        refine HT_seq_k ?_
        intro K221 hK221
        refine HT_region ?_
        refine HL_cons rfl ?_
        refine o_bin rfl rfl rfl ?_
        try dsimp only [putL, setL, evL, getL]
        refine HL_nil ?_
        refine hK221 _ _ ?_
        refine HT_seq_k ?_
        intro K222 hK222
        rcases Bool.eq_false_or_eq_true (decide (x178 < (p0.length : Int))) with hb223 | hb223
        · replace H := iteT hb223 H
          refine HT_true (congrArg Value.bool hb223) ?_
          refine HT_skip ?_
          refine hK222 _ _ ?_
          refine HT_seq_k ?_
          intro K242 hK242
          refine HT_block ?_
          refine HT_seq_k ?_
          intro K243 hK243
          refine HT_region ?_
          replace H := headE H
          obtain ⟨u244, hu244, H⟩ := H
          obtain ⟨b244, o244, cs244, hr244, hh244, hel244⟩ := Rd.elb HRp0 hu244
          obtain ⟨_, _, rfl, rfl, ⟨A245, c245, rfl, D245⟩⟩ := hr244
          refine HL_cons rfl ?_
          refine hel244 s220 rfl rfl Try.underlying85 tI170 ?_
          try dsimp only [putL, setL, evL, getL]
          refine HL_cons rfl ?_
          refine o_loads' [.int .i64 u244.1, .slice A245 u244.2.length c245] rfl Try.underlying170 rfl tI170 rfl (fun j v hj => (hh244 hH.bs.mono) j v hj) ?_
          try dsimp only [putL, setL, evL, getL]
          refine HL_cons rfl ?_
          refine o_allocH hH tI170 ?_
          intro b246 s246 hH' hG
          replace hH : Hp sb s F0 s246 [Ck.ol OS170 170 A177 c177 x177, Ck.ov b246 [.int .i64 0, .slice none 0 0] 170] := hH'
          clear hH' hG
          try dsimp only [putL, setL, evL, getL]
          refine HL_cons rfl ?_
          refine o_stvH (vs := [.int .i64 u244.1, .slice A245 u244.2.length c245]) (us' := [.int .i64 u244.1, .slice A245 u244.2.length c245]) hH 1 rfl rfl rfl rfl rfl tI170 rfl (List.cons_ne_nil _ _) rfl rfl rfl ?_
          intro s247 hH'
          replace hH : Hp sb s F0 s247 [Ck.ol OS170 170 A177 c177 x177, Ck.ov b246 [.int .i64 u244.1, .slice A245 u244.2.length c245] 170] := hH'
          clear hH'
          try dsimp only [putL, setL, evL, getL]
          refine HL_nil ?_
          refine hK243 _ _ ?_
          refine HT_seq_k ?_
          intro K248 hK248
          refine HT_region ?_
          refine HL_cons rfl ?_
          refine o_faddr' (ft := 3) (off := 0) rfl Try.underlying170 rfl tI3 (by decide) ?_
          try dsimp only [putL, setL, evL, getL]
          refine HL_cons rfl ?_
          refine o_load' rfl Try.underlying3 rfl (hH.hasv 1 rfl rfl) ?_
          try dsimp only [putL, setL, evL, getL]
          refine HL_cons rfl ?_
          refine o_assign ?_
          try dsimp only [putL, setL, evL, getL]
          refine HL_nil ?_
          refine hK248 _ _ ?_
          refine joinH H fun G249 hG249 H => ?_
          refine HT_joinK (fun l' s' => ∃ (x252 : Int), G249 x252 = some r ∧ l' = [.slice A0p p0.length c0p, undef, .slice none 0 0, .bool false, .slice A177 x177.length c177, undef, .pointer (some ⟨b246, 0, none⟩), .int .i64 x252, .slice A0p p0.length c0p, .bool u4, .bool (!u4), .slice A0p p0.length c0p, .int .i64 (p0.length : Int), .int .i64 x178, .bool (decide (x178 < (p0.length : Int))), .pointer (some ⟨b244, o244, none⟩), .agg #[.int .i64 u244.1, .slice A245 u244.2.length c245], .pointer (some ⟨b246, 0 + 0, none⟩), .int .i64 u244.1, getL l' 19, getL l' 20, getL l' 21, getL l' 22, j23, j24, j25, j26, j27, j28, j29, j30, j31, undef] ∧ Hp sb s F0 s' [Ck.ol OS170 170 A177 c177 x177, Ck.ov b246 [.int .i64 u244.1, .slice A245 u244.2.length c245] 170]) ?_ ?_
          · intro K249 hK249
            refine HT_seq_k ?_
            intro K253 hK253
            refine HT_region ?_
            refine HL_cons rfl ?_
            refine o_move ?_
            try dsimp only [putL, setL, evL, getL]
            refine HL_cons rfl ?_
            refine o_bin rfl rfl rfl ?_
            try dsimp only [putL, setL, evL, getL]
            refine HL_nil ?_
            refine hK253 _ _ ?_
            rcases Bool.eq_false_or_eq_true (u244.1 != 1) with hb254 | hb254
            · replace H := iteT hb254 H
              refine HT_true (congrArg Value.bool hb254) ?_
              refine HT_region ?_
              refine HL_cons rfl ?_
              refine o_move ?_
              try dsimp only [putL, setL, evL, getL]
              refine HL_cons rfl ?_
              refine o_bin rfl rfl rfl ?_
              try dsimp only [putL, setL, evL, getL]
              refine HL_cons rfl ?_
              refine o_assign ?_
              try dsimp only [putL, setL, evL, getL]
              refine HL_nil ?_
              exact hK249 _ _ ⟨IntKind.i64.wrap (5 - u244.1), H, rfl, hH⟩
            · replace H := iteF hb254 H
              refine HT_false (congrArg Value.bool hb254) ?_
              refine HT_skip ?_
              exact hK249 _ _ ⟨u244.1, H, rfl, hH⟩
          · rintro l' s255 ⟨x252, H, hl, hH⟩
            generalize getL l' 19 = j19, getL l' 20 = j20, getL l' 21 = j21, getL l' 22 = j22 at hl
            subst hl
            replace H := hG249 _ H
            try dsimp only at H
            refine HT_region ?_
            refine HL_cons rfl ?_
            refine o_move ?_
            try dsimp only [putL, setL, evL, getL]
            refine HL_cons rfl ?_
            refine o_move ?_
            try dsimp only [putL, setL, evL, getL]
            refine HL_cons rfl ?_
            refine o_faddr' (ft := 24) (off := 1) rfl Try.underlying170 rfl tI24 (by decide) ?_
            try dsimp only [putL, setL, evL, getL]
            refine HL_cons rfl ?_
            refine o_load' rfl Try.underlying24 rfl (hH.hasv 1 rfl rfl) ?_
            try dsimp only [putL, setL, evL, getL]
            replace H := headE H
            obtain ⟨u256, hu256, H⟩ := H
            refine HL_cons rfl ?_
            refine o_call (args := #[.slice A245 u244.2.length c245]) Try.func144 rfl rfl rfl (spec_l1Own.ok sb s255 no A245 c245 u244.2 D245 (Hp.own hH.bs) _ hu256) ?_
            rintro _ s256 ⟨A257, c257, rfl, hD⟩
            replace hH := hH.back0 hD (Up.refl _ _ _)
            clear hD
            dsimp only [addC, setC, rmC, selC, getC] at hH
            try dsimp only [putL, setL, evL, getL]
            refine HL_cons rfl ?_
            refine o_build (pl := [(0, 1), (1, 1)]) (cs := #[.int .i64 x252, .slice A257 u256.length c257]) Try.underlying170 tI170 (by kernel_rfl) (by kernel_rfl) rfl ?_
            try dsimp only [putL, setL, evL, getL]
            replace hH := hH.conv [2] (by decide) (d := Ck.el OS170 [.int .i64 x252, .slice A257 u256.length c257] (x252, u256)) (Ent.pair (v1 := [.int .i64 x252]) (v2 := [.slice A257 u256.length c257]) (x1 := x252) (x2 := u256) (Ent.flat rfl) Ent.sl)
            dsimp only [addC, setC, rmC, selC, getC] at hH
            refine HL_cons rfl ?_
            refine o_litD (K := KS170) (O := OS170) (ca := #[.int .i64 x252, .slice A257 u256.length c257]) [[.int .i64 x252, .slice A257 u256.length c257]] [(x252, u256)] hH [3] (by decide) rfl Try.underlying85 tI170 rfl (by decide) rfl rfl rfl rfl (by kernel_rfl) rfl ?_
            intro A258 s258 hH' hG
            replace hH : Hp sb s F0 s258 [Ck.ol OS170 170 A177 c177 x177, Ck.ov b246 [.int .i64 u244.1, .slice A245 u244.2.length c245] 170, Ck.emp, Ck.emp, Ck.ol OS170 170 A258 1 [(x252, u256)]] := hH'
            clear hH' hG
            try dsimp only [putL, setL, evL, getL]
            replace H := headE H
            obtain ⟨x259, hx259, H⟩ := H
            refine HL_cons rfl ?_
            refine o_appD (K := KS170) (n := 4398046511104) (A := A177) (c := c177) (xs := x177) (ys := [(x252, u256)]) (B := A258) (c2 := 1) hH 0 4 (by decide) rfl rfl rfl rfl rfl Try.underlying85 tI170 rfl (by decide) (by decide) (by decide) hx259 ?_
            intro A259 c259 s259 hH'
            replace hH : Hp sb s F0 s259 [Ck.ol OS170 170 A259 c259 x259, Ck.ov b246 [.int .i64 u244.1, .slice A245 u244.2.length c245] 170, Ck.emp, Ck.emp, Ck.emp] := hH'
            clear hH'
            try dsimp only [putL, setL, evL, getL]
            refine HL_cons rfl ?_
            refine o_assign ?_
            try dsimp only [putL, setL, evL, getL]
            refine HL_nil ?_
            refine hK242 _ _ ?_
            refine HT_region ?_
            refine HL_cons rfl ?_
            refine o_bin rfl rfl rfl ?_
            try dsimp only [putL, setL, evL, getL]
            refine HL_cons rfl ?_
            refine o_move ?_
            try dsimp only [putL, setL, evL, getL]
            refine HL_nil ?_
            exact hK220 _ _ ⟨kf, Nat.lt_succ_self kf, x259, A259, c259, IntKind.i64.wrap (x178 + 1), H, rfl, hH.sel [0] (by decide)⟩
        · replace H := iteF hb223 H
          refine HT_false (congrArg Value.bool hb223) ?_
          refine HT_exit ?_
          exact hK10 _ _ ⟨x177, A177, c177, H, rfl, hH⟩
    · rintro l' s260 ⟨x135, A135, c135, H, hl, hH⟩
      generalize getL l' 6 = j6, getL l' 7 = j7, getL l' 13 = j13, getL l' 14 = j14, getL l' 15 = j15, getL l' 16 = j16, getL l' 17 = j17, getL l' 18 = j18, getL l' 19 = j19, getL l' 20 = j20, getL l' 21 = j21, getL l' 22 = j22, getL l' 23 = j23, getL l' 24 = j24, getL l' 25 = j25, getL l' 26 = j26, getL l' 27 = j27, getL l' 28 = j28, getL l' 29 = j29, getL l' 30 = j30, getL l' 31 = j31 at hl
      subst hl
      replace H := hG10 _ H
      try dsimp only at H
      refine hK8 _ _ ?_
      refine HT_seq_k ?_
      intro K261 hK261
      refine HT_region ?_
      refine HL_cons rfl ?_
      refine o_move ?_
      try dsimp only [putL, setL, evL, getL]
      refine HL_cons rfl ?_
      refine o_assign ?_
      try dsimp only [putL, setL, evL, getL]
      refine HL_cons rfl ?_
      refine o_assign ?_
      try dsimp only [putL, setL, evL, getL]
      refine HL_nil ?_
      refine hK261 _ _ ?_
      refine HT_ret ?_
      exact hQr _ _ [.slice A135 x135.length c135, .bool true] ⟨rfl, rfl, trivial⟩ (retH (fun r => spec_TurnDiff.post sb s F0 r _ _) (show some _ = some r from H) ⟨A135, c135, rfl, hH⟩)
def laws_FnDiff.f (p0 : List (Int)) (p1 : List (Int)) : Option Bool := (laws_big.f p0 p1).bind fun u4 => if u4 = true then (some true) else ((spec_DrawDiffOf.f p0).bind fun u8 => (impl_DiffOf.f u8.1 u8.2).bind fun u12 => (spec_DiffOf.f u8.1 u8.2).bind fun u15 => (impl_CommonOf.f u8.1 u8.2).bind fun u18 => (spec_CommonOf.f u8.1 u8.2).bind fun u21 => (if (u12.2 != u15.2) = true then (some true) else ((laws_sameEdits.f u12.1 u15.1).bind fun u48 => if (!u48) = true then (some true) else (if (u18.2 != u21.2) = true then (some true) else ((laws_sameInts.f u18.1 u21.1).bind fun u51 => some (!u51))))).bind fun (o : Bool) => match o with | x46 => (if x46 = true then (some false) else ((if u12.2 = true then ((impl_ApplyDiff.f u8.1 u12.1).bind fun u100 => (impl_TurnDiff.f u12.1).bind fun u103 => (impl_ApplyDiff.f u8.2 u103.1).bind fun u106 => (impl_DistanceOf.f u8.1 u8.2).bind fun u109 => (impl_CommonOf.f u8.2 u8.1).bind fun u111 => (if (!u100.2) = true then (some true) else ((laws_sameInts.f u100.1 u8.2).bind fun u126 => if (!u126) = true then (some true) else (if (!u103.2) = true then (some true) else (if (!u106.2) = true then (some true) else ((laws_sameInts.f u106.1 u8.1).bind fun u130 => if (!u130) = true then (some true) else (if (!u109.2) = true then (some true) else (if (decide (u109.1 > (IntKind.i64.wrap ((IntKind.i64.wrap ((u8.1.length : Int) + (u8.2.length : Int))) - (IntKind.i64.wrap (2 * (u18.1.length : Int))))))) = true then (some true) else (if (!u111.2) = true then (some true) else (some ((u111.1.length : Int) != (u18.1.length : Int))))))))))).bind fun (o : Bool) => match o with | x124 => (if x124 = true then ((some false).bind fun z => some (Lo.ret z)) else (some (Lo.go ())))) else (some (Lo.go ()))).bind fun (o : Lo Unit Bool) => match o with | .go () => ((spec_DrawApplyDiff.f p1).bind fun u140 => (impl_ApplyDiff.f u140.1 u140.2).bind fun u144 => (spec_ApplyDiff.f u140.1 u140.2).bind fun u147 => (spec_DrawTurnDiff.f p1).bind fun u150 => (impl_TurnDiff.f u150).bind fun u153 => (spec_TurnDiff.f u150).bind fun u156 => (if (u144.2 != u147.2) = true then (some true) else ((laws_sameInts.f u144.1 u147.1).bind fun u183 => if (!u183) = true then (some true) else (if (u153.2 != u156.2) = true then (some true) else ((laws_sameEdits.f u153.1 u156.1).bind fun u186 => some (!u186))))).bind fun (o : Bool) => match o with | x181 => (if x181 = true then (some false) else (if u153.2 = true then ((impl_TurnDiff.f u153.1).bind fun u194 => if u194.2 = true then ((laws_sameEdits.f u194.1 u150).bind fun u198 => some u198) else (some false)) else (some true)))) | .ret z => some z)))
def laws_FnDiff.post (sb s : St) (F0 : Fp) (r : Bool) : Value → St → Prop := fun v s' => v = .bool r ∧ Hp sb s F0 s' []
set_option maxRecDepth 100000 in
set_option maxHeartbeats 4000000 in
theorem laws_FnDiff.ok (sb s : St) (F0 : Fp) (A0p : Option Addr) (c0p : Nat) (p0 : List (Int)) (A1p : Option Addr) (c1p : Nat) (p1 : List (Int)) (HRp0 : Rd (Kd.int .u8) sb A0p c0p p0) (HRp1 : Rd (Kd.int .u8) sb A1p c1p p1) (hH : Hp sb s F0 s []) (r : Bool) (H : laws_FnDiff.f p0 p1 = some r) : GCall Try.prog 9 #[.slice A0p p0.length c0p, .slice A1p p1.length c1p] s (laws_FnDiff.post sb s F0 r) := by
  refine GCall_ofk [.tmp 4] [.slice A0p p0.length c0p, .slice A1p p1.length c1p, undef, undef, undef, undef, undef, undef, undef, undef, undef, undef, undef, undef, undef, undef, undef, undef, undef, undef, undef, undef, undef, undef, undef, undef, undef, undef, undef, undef, undef, undef, undef, undef, undef, undef, undef, undef, undef, undef, undef, undef, undef, undef, undef, undef, undef, undef, undef, undef, undef, undef, undef, undef, undef, undef, undef, undef, undef, undef, undef, undef, undef, undef, undef, undef, undef, undef, undef, undef, undef, undef, undef, undef, undef, undef, undef, undef, undef, undef, undef, undef, undef, undef, undef, undef, undef, undef, undef, undef, undef, undef, undef, undef, undef, undef, undef, undef, undef, undef, undef, undef, undef, undef, undef, undef, undef, undef, undef, undef, undef, undef, undef, undef, undef, undef, undef, undef, undef, undef, undef, undef, undef, undef, undef, undef, undef, undef, undef, undef, undef, undef, undef, undef, undef, undef, undef, undef, undef, undef, undef, undef, undef, undef, undef, undef, undef, undef, undef, undef, undef, undef, undef, undef, undef, undef, undef, undef, undef, undef, undef, undef, undef, undef, undef, undef, undef, undef, undef, undef, undef, undef, undef, undef, undef, undef, undef, undef, undef, undef, undef, undef, undef, undef, undef, undef, undef, undef, undef, undef, undef, undef, undef, undef, undef, undef, undef, undef, undef, undef, undef, undef, undef, undef, undef, undef, undef, undef, undef, undef, undef, undef, undef, undef, undef, undef, undef, undef, undef, undef, undef, undef, undef, undef, undef, undef, undef, undef, undef, undef, undef] Try.func9 rfl rfl rfl ?_
  intro w Q hQr hQn hQp
  replace H := topE H
  unfold laws_FnDiff.f at H
  refine HT_seq_k ?_
  intro K1 hK1
  refine HT_region ?_
  refine HL_cons rfl ?_
  refine o_assign ?_
  try dsimp only [putL, setL, evL, getL]
  refine HL_nil ?_
  refine hK1 _ _ ?_
  refine HT_seq_k ?_
  intro K2 hK2
  refine HT_seq_k ?_
  intro K3 hK3
  refine HT_region ?_
  refine HL_cons rfl ?_
  refine o_move ?_
  try dsimp only [putL, setL, evL, getL]
  refine HL_cons rfl ?_
  refine o_move ?_
  try dsimp only [putL, setL, evL, getL]
  replace H := headE H
  obtain ⟨u4, hu4, H⟩ := H
  refine HL_cons rfl ?_
  refine o_call (args := #[.slice A0p p0.length c0p, .slice A1p p1.length c1p]) Try.func14 rfl rfl rfl (laws_big.ok sb s no A0p c0p p0 A1p c1p p1 HRp0 HRp1 (Hp.own hH.bs) _ hu4) ?_
  rintro _ s4 ⟨rfl, hD⟩
  replace hH := hH.back0 hD (Up.refl _ _ _)
  clear hD
  dsimp only [addC, setC, rmC, selC, getC] at hH
  try dsimp only [putL, setL, evL, getL]
  refine HL_nil ?_
  refine hK3 _ _ ?_
  rcases Bool.eq_false_or_eq_true u4 with hb5 | hb5
  · replace H := iteT hb5 H
    refine HT_true (congrArg Value.bool hb5) ?_
    refine HT_seq_k ?_
    intro K6 hK6
    refine HT_region ?_
    refine HL_cons rfl ?_
    refine o_assign ?_
    try dsimp only [putL, setL, evL, getL]
    refine HL_nil ?_
    refine hK6 _ _ ?_
    refine HT_ret ?_
    exact hQr _ _ [.bool true] ⟨rfl, trivial⟩ (retH (fun r => laws_FnDiff.post sb s F0 r _ _) (show some _ = some r from H) ⟨rfl, hH⟩)
  · replace H := iteF hb5 H
    refine HT_false (congrArg Value.bool hb5) ?_
    refine HT_skip ?_
    refine hK2 _ _ ?_
    refine HT_seq_k ?_
    intro K7 hK7
    refine HT_region ?_
    refine HL_cons rfl ?_
    refine o_move ?_
    try dsimp only [putL, setL, evL, getL]
    replace H := headE H
    obtain ⟨u8, hu8, H⟩ := H
    refine HL_cons rfl ?_
    refine o_call (args := #[.slice A0p p0.length c0p]) Try.func66 rfl rfl rfl (spec_DrawDiffOf.ok sb s4 no A0p c0p p0 HRp0 (Hp.own hH.bs) _ hu8) ?_
    rintro _ s8 ⟨A9, c9, A10, c10, rfl, hD⟩
    replace hH := hH.back0 hD (Up.refl _ _ _)
    clear hD
    dsimp only [addC, setC, rmC, selC, getC] at hH
    try dsimp only [putL, setL, evL, getL]
    refine HL_cons rfl ?_
    refine o_move ?_
    try dsimp only [putL, setL, evL, getL]
    refine HL_cons rfl ?_
    refine o_extract rfl rfl ?_
    try dsimp only [putL, setL, evL, getL]
    refine HL_cons rfl ?_
    refine o_extract rfl rfl ?_
    try dsimp only [putL, setL, evL, getL]
    refine HL_cons rfl ?_
    refine o_assign ?_
    try dsimp only [putL, setL, evL, getL]
    refine HL_cons rfl ?_
    refine o_assign ?_
    try dsimp only [putL, setL, evL, getL]
    refine HL_nil ?_
    refine hK7 _ _ ?_
    refine HT_seq_k ?_
    intro K11 hK11
    refine HT_region ?_
    refine HL_cons rfl ?_
    refine o_move ?_
    try dsimp only [putL, setL, evL, getL]
    refine HL_cons rfl ?_
    refine o_move ?_
    try dsimp only [putL, setL, evL, getL]
    replace H := headE H
    obtain ⟨u12, hu12, H⟩ := H
    refine HL_cons rfl ?_
    refine o_call (args := #[.slice A9 u8.1.length c9, .slice A10 u8.2.length c10]) Try.func67 rfl rfl rfl (impl_DiffOf.ok s8 s8 no A9 c9 u8.1 A10 c10 u8.2 (hH.rd 0 rfl) (hH.rd 1 rfl) (Hp.own (Bs.refl s8)) _ hu12) ?_
    rintro _ s12 ⟨A13, c13, rfl, hD⟩
    replace hH := hH.back0T hD
    clear hD
    dsimp only [addC, setC, rmC, selC, getC] at hH
    try dsimp only [putL, setL, evL, getL]
    refine HL_cons rfl ?_
    refine o_move ?_
    try dsimp only [putL, setL, evL, getL]
    refine HL_cons rfl ?_
    refine o_extract rfl rfl ?_
    try dsimp only [putL, setL, evL, getL]
    refine HL_cons rfl ?_
    refine o_extract rfl rfl ?_
    try dsimp only [putL, setL, evL, getL]
    refine HL_cons rfl ?_
    refine o_assign ?_
    try dsimp only [putL, setL, evL, getL]
    refine HL_cons rfl ?_
    refine o_assign ?_
    try dsimp only [putL, setL, evL, getL]
    refine HL_nil ?_
    refine hK11 _ _ ?_
    refine HT_seq_k ?_
    intro K14 hK14
    refine HT_region ?_
    refine HL_cons rfl ?_
    refine o_move ?_
    try dsimp only [putL, setL, evL, getL]
    refine HL_cons rfl ?_
    refine o_move ?_
    try dsimp only [putL, setL, evL, getL]
    replace H := headE H
    obtain ⟨u15, hu15, H⟩ := H
    refine HL_cons rfl ?_
    refine o_call (args := #[.slice A9 u8.1.length c9, .slice A10 u8.2.length c10]) Try.func68 rfl rfl rfl (spec_DiffOf.ok s12 s12 no A9 c9 u8.1 A10 c10 u8.2 (hH.rd 0 rfl) (hH.rd 1 rfl) (Hp.own (Bs.refl s12)) _ hu15) ?_
    rintro _ s15 ⟨A16, c16, rfl, hD⟩
    replace hH := hH.back0T hD
    clear hD
    dsimp only [addC, setC, rmC, selC, getC] at hH
    try dsimp only [putL, setL, evL, getL]
    refine HL_cons rfl ?_
    refine o_move ?_
    try dsimp only [putL, setL, evL, getL]
    refine HL_cons rfl ?_
    refine o_extract rfl rfl ?_
    try dsimp only [putL, setL, evL, getL]
    refine HL_cons rfl ?_
    refine o_extract rfl rfl ?_
    try dsimp only [putL, setL, evL, getL]
    refine HL_cons rfl ?_
    refine o_assign ?_
    try dsimp only [putL, setL, evL, getL]
    refine HL_cons rfl ?_
    refine o_assign ?_
    try dsimp only [putL, setL, evL, getL]
    refine HL_nil ?_
    refine hK14 _ _ ?_
    refine HT_seq_k ?_
    intro K17 hK17
    refine HT_region ?_
    refine HL_cons rfl ?_
    refine o_move ?_
    try dsimp only [putL, setL, evL, getL]
    refine HL_cons rfl ?_
    refine o_move ?_
    try dsimp only [putL, setL, evL, getL]
    replace H := headE H
    obtain ⟨u18, hu18, H⟩ := H
    refine HL_cons rfl ?_
    refine o_call (args := #[.slice A9 u8.1.length c9, .slice A10 u8.2.length c10]) Try.func69 rfl rfl rfl (impl_CommonOf.ok s15 s15 no A9 c9 u8.1 A10 c10 u8.2 (hH.rd 0 rfl) (hH.rd 1 rfl) (Hp.own (Bs.refl s15)) _ hu18) ?_
    rintro _ s18 ⟨A19, c19, rfl, hD⟩
    replace hH := hH.back0T hD
    clear hD
    dsimp only [addC, setC, rmC, selC, getC] at hH
    try dsimp only [putL, setL, evL, getL]
    refine HL_cons rfl ?_
    refine o_move ?_
    try dsimp only [putL, setL, evL, getL]
    refine HL_cons rfl ?_
    refine o_extract rfl rfl ?_
    try dsimp only [putL, setL, evL, getL]
    refine HL_cons rfl ?_
    refine o_extract rfl rfl ?_
    try dsimp only [putL, setL, evL, getL]
    refine HL_cons rfl ?_
    refine o_assign ?_
    try dsimp only [putL, setL, evL, getL]
    refine HL_cons rfl ?_
    refine o_assign ?_
    try dsimp only [putL, setL, evL, getL]
    refine HL_nil ?_
    refine hK17 _ _ ?_
    refine HT_seq_k ?_
    intro K20 hK20
    refine HT_region ?_
    refine HL_cons rfl ?_
    refine o_move ?_
    try dsimp only [putL, setL, evL, getL]
    refine HL_cons rfl ?_
    refine o_move ?_
    try dsimp only [putL, setL, evL, getL]
    replace H := headE H
    obtain ⟨u21, hu21, H⟩ := H
    refine HL_cons rfl ?_
    refine o_call (args := #[.slice A9 u8.1.length c9, .slice A10 u8.2.length c10]) Try.func70 rfl rfl rfl (spec_CommonOf.ok s18 s18 no A9 c9 u8.1 A10 c10 u8.2 (hH.rd 0 rfl) (hH.rd 1 rfl) (Hp.own (Bs.refl s18)) _ hu21) ?_
    rintro _ s21 ⟨A22, c22, rfl, hD⟩
    replace hH := hH.back0T hD
    clear hD
    dsimp only [addC, setC, rmC, selC, getC] at hH
    try dsimp only [putL, setL, evL, getL]
    refine HL_cons rfl ?_
    refine o_move ?_
    try dsimp only [putL, setL, evL, getL]
    refine HL_cons rfl ?_
    refine o_extract rfl rfl ?_
    try dsimp only [putL, setL, evL, getL]
    refine HL_cons rfl ?_
    refine o_extract rfl rfl ?_
    try dsimp only [putL, setL, evL, getL]
    refine HL_cons rfl ?_
    refine o_assign ?_
    try dsimp only [putL, setL, evL, getL]
    refine HL_cons rfl ?_
    refine o_assign ?_
    try dsimp only [putL, setL, evL, getL]
    refine HL_nil ?_
    refine hK20 _ _ ?_
    refine HT_seq_k ?_
    intro K39 hK39
    refine joinH H fun G40 hG40 H => ?_
    refine HT_joinK (fun l' s' => ∃ (x46 : Bool), G40 x46 = some r ∧ l' = [.slice A0p p0.length c0p, .slice A1p p1.length c1p, undef, undef, .bool false, .slice A9 u8.1.length c9, .slice A10 u8.2.length c10, .slice A13 u12.1.length c13, .bool u12.2, .slice A16 u15.1.length c16, .bool u15.2, .slice A19 u18.1.length c19, .bool u18.2, .slice A22 u21.1.length c22, .bool u21.2, undef, undef, undef, undef, undef, undef, undef, undef, undef, undef, undef, undef, undef, undef, undef, undef, undef, undef, undef, undef, undef, undef, undef, .slice A0p p0.length c0p, .slice A1p p1.length c1p, .bool u4, .tuple #[.slice A9 u8.1.length c9, .slice A10 u8.2.length c10], .slice A0p p0.length c0p, .tuple #[.slice A9 u8.1.length c9, .slice A10 u8.2.length c10], .slice A9 u8.1.length c9, .slice A10 u8.2.length c10, .tuple #[.slice A13 u12.1.length c13, .bool u12.2], .slice A9 u8.1.length c9, .slice A10 u8.2.length c10, .tuple #[.slice A13 u12.1.length c13, .bool u12.2], .slice A13 u12.1.length c13, .bool u12.2, .tuple #[.slice A16 u15.1.length c16, .bool u15.2], .slice A9 u8.1.length c9, .slice A10 u8.2.length c10, .tuple #[.slice A16 u15.1.length c16, .bool u15.2], .slice A16 u15.1.length c16, .bool u15.2, .tuple #[.slice A19 u18.1.length c19, .bool u18.2], .slice A9 u8.1.length c9, .slice A10 u8.2.length c10, .tuple #[.slice A19 u18.1.length c19, .bool u18.2], .slice A19 u18.1.length c19, .bool u18.2, .tuple #[.slice A22 u21.1.length c22, .bool u21.2], .slice A9 u8.1.length c9, .slice A10 u8.2.length c10, .tuple #[.slice A22 u21.1.length c22, .bool u21.2], .slice A22 u21.1.length c22, .bool u21.2, getL l' 70, getL l' 71, getL l' 72, getL l' 73, getL l' 74, getL l' 75, getL l' 76, getL l' 77, getL l' 78, getL l' 79, getL l' 80, getL l' 81, getL l' 82, getL l' 83, getL l' 84, getL l' 85, getL l' 86, getL l' 87, getL l' 88, .bool x46, undef, undef, undef, undef, undef, undef, undef, undef, undef, undef, undef, undef, undef, undef, undef, undef, undef, undef, undef, undef, undef, undef, undef, undef, undef, undef, undef, undef, undef, undef, undef, undef, undef, undef, undef, undef, undef, undef, undef, undef, undef, undef, undef, undef, undef, undef, undef, undef, undef, undef, undef, undef, undef, undef, undef, undef, undef, undef, undef, undef, undef, undef, undef, undef, undef, undef, undef, undef, undef, undef, undef, undef, undef, undef, undef, undef, undef, undef, undef, undef, undef, undef, undef, undef, undef, undef, undef, undef, undef, undef, undef, undef, undef, undef, undef, undef, undef, undef, undef, undef, undef, undef, undef, undef, undef, undef, undef, undef, undef, undef, undef, undef, undef, undef, undef, undef, undef, undef, undef, undef, undef, undef, undef, undef, undef, undef, undef, undef, undef, undef, undef, undef, undef, undef, undef, undef, undef, undef, undef, undef, undef] ∧ Hp sb s F0 s' [Ck.ol OI 3 A9 c9 u8.1, Ck.ol OI 3 A10 c10 u8.2, Ck.ol OS170 170 A13 c13 u12.1, Ck.ol OI 3 A19 c19 u18.1]) ?_ ?_
    · intro K40 hK40
      refine HT_region ?_
      refine HL_cons rfl ?_
      refine o_move ?_
      try dsimp only [putL, setL, evL, getL]
      refine HL_cons rfl ?_
      refine o_move ?_
      try dsimp only [putL, setL, evL, getL]
      refine HL_cons rfl ?_
      refine o_neb rfl rfl Try.underlying4 ?_
      try dsimp only [putL, setL, evL, getL]
      refine HL_cons rfl ?_
      refine o_move ?_
      try dsimp only [putL, setL, evL, getL]
      rcases Bool.eq_false_or_eq_true (u12.2 != u15.2) with hb47 | hb47
      · replace H := iteT hb47 H
        refine HL_skip ?_ ?_
        · exact wantF (j := 3) (b := false) (t := 73) (c := u12.2 != u15.2) rfl rfl rfl rfl hb47
        try dsimp only [putL, setL, evL, getL]
        refine HL_skip ?_ ?_
        · exact wantF (j := 3) (b := false) (t := 73) (c := u12.2 != u15.2) rfl rfl rfl rfl hb47
        try dsimp only [putL, setL, evL, getL]
        refine HL_skip ?_ ?_
        · exact wantF (j := 3) (b := false) (t := 73) (c := u12.2 != u15.2) rfl rfl rfl rfl hb47
        try dsimp only [putL, setL, evL, getL]
        refine HL_skip ?_ ?_
        · exact wantF (j := 3) (b := false) (t := 73) (c := u12.2 != u15.2) rfl rfl rfl rfl hb47
        try dsimp only [putL, setL, evL, getL]
        refine HL_cons rfl ?_
        refine o_pickT rfl hb47 ?_
        try dsimp only [putL, setL, evL, getL]
        refine HL_cons rfl ?_
        refine o_move ?_
        try dsimp only [putL, setL, evL, getL]
        refine HL_skip ?_ ?_
        · exact wantF (j := 9) (b := false) (t := 79) (c := true) rfl rfl rfl rfl rfl
        try dsimp only [putL, setL, evL, getL]
        refine HL_skip ?_ ?_
        · exact wantF (j := 9) (b := false) (t := 79) (c := true) rfl rfl rfl rfl rfl
        try dsimp only [putL, setL, evL, getL]
        refine HL_skip ?_ ?_
        · exact wantF (j := 9) (b := false) (t := 79) (c := true) rfl rfl rfl rfl rfl
        try dsimp only [putL, setL, evL, getL]
        refine HL_cons rfl ?_
        refine o_pickT rfl rfl ?_
        try dsimp only [putL, setL, evL, getL]
        refine HL_cons rfl ?_
        refine o_move ?_
        try dsimp only [putL, setL, evL, getL]
        refine HL_skip ?_ ?_
        · exact wantF (j := 14) (b := false) (t := 84) (c := true) rfl rfl rfl rfl rfl
        try dsimp only [putL, setL, evL, getL]
        refine HL_skip ?_ ?_
        · exact wantF (j := 14) (b := false) (t := 84) (c := true) rfl rfl rfl rfl rfl
        try dsimp only [putL, setL, evL, getL]
        refine HL_skip ?_ ?_
        · exact wantF (j := 14) (b := false) (t := 84) (c := true) rfl rfl rfl rfl rfl
        try dsimp only [putL, setL, evL, getL]
        refine HL_skip ?_ ?_
        · exact wantF (j := 14) (b := false) (t := 84) (c := true) rfl rfl rfl rfl rfl
        try dsimp only [putL, setL, evL, getL]
        refine HL_cons rfl ?_
        refine o_pickT rfl rfl ?_
        try dsimp only [putL, setL, evL, getL]
        refine HL_nil ?_
        exact hK40 _ _ ⟨true, H, rfl, hH.sel [0, 1, 2, 4] (by decide)⟩
      · replace H := iteF hb47 H
        refine HL_want ?_ ?_
        · exact wantT (j := 3) (b := false) (t := 73) (c := u12.2 != u15.2) rfl rfl rfl rfl hb47
        refine o_move ?_
        try dsimp only [putL, setL, evL, getL]
        refine HL_want ?_ ?_
        · exact wantT (j := 3) (b := false) (t := 73) (c := u12.2 != u15.2) rfl rfl rfl rfl hb47
        refine o_move ?_
        try dsimp only [putL, setL, evL, getL]
        replace H := headE H
        obtain ⟨u48, hu48, H⟩ := H
        refine HL_want ?_ ?_
        · exact wantT (j := 3) (b := false) (t := 73) (c := u12.2 != u15.2) rfl rfl rfl rfl hb47
        refine o_call (args := #[.slice A13 u12.1.length c13, .slice A16 u15.1.length c16]) Try.func71 rfl rfl rfl (laws_sameEdits.ok s21 s21 no A13 c13 u12.1 A16 c16 u15.1 (hH.rd 2 rfl) (hH.rd 3 rfl) (Hp.own (Bs.refl s21)) _ hu48) ?_
        rintro _ s48 ⟨rfl, hD⟩
        replace hH := hH.back0T hD
        clear hD
        dsimp only [addC, setC, rmC, selC, getC] at hH
        try dsimp only [putL, setL, evL, getL]
        refine HL_want ?_ ?_
        · exact wantT (j := 3) (b := false) (t := 73) (c := u12.2 != u15.2) rfl rfl rfl rfl hb47
        refine o_not rfl ?_
        try dsimp only [putL, setL, evL, getL]
        refine HL_cons rfl ?_
        refine o_pickF rfl hb47 ?_
        try dsimp only [putL, setL, evL, getL]
        refine HL_cons rfl ?_
        refine o_move ?_
        try dsimp only [putL, setL, evL, getL]
        rcases Bool.eq_false_or_eq_true (!u48) with hb49 | hb49
        · replace H := iteT hb49 H
          refine HL_skip ?_ ?_
          · exact wantF (j := 9) (b := false) (t := 79) (c := !u48) rfl rfl rfl rfl hb49
          try dsimp only [putL, setL, evL, getL]
          refine HL_skip ?_ ?_
          · exact wantF (j := 9) (b := false) (t := 79) (c := !u48) rfl rfl rfl rfl hb49
          try dsimp only [putL, setL, evL, getL]
          refine HL_skip ?_ ?_
          · exact wantF (j := 9) (b := false) (t := 79) (c := !u48) rfl rfl rfl rfl hb49
          try dsimp only [putL, setL, evL, getL]
          refine HL_cons rfl ?_
          refine o_pickT rfl hb49 ?_
          try dsimp only [putL, setL, evL, getL]
          refine HL_cons rfl ?_
          refine o_move ?_
          try dsimp only [putL, setL, evL, getL]
          refine HL_skip ?_ ?_
          · exact wantF (j := 14) (b := false) (t := 84) (c := true) rfl rfl rfl rfl rfl
          try dsimp only [putL, setL, evL, getL]
          refine HL_skip ?_ ?_
          · exact wantF (j := 14) (b := false) (t := 84) (c := true) rfl rfl rfl rfl rfl
          try dsimp only [putL, setL, evL, getL]
          refine HL_skip ?_ ?_
          · exact wantF (j := 14) (b := false) (t := 84) (c := true) rfl rfl rfl rfl rfl
          try dsimp only [putL, setL, evL, getL]
          refine HL_skip ?_ ?_
          · exact wantF (j := 14) (b := false) (t := 84) (c := true) rfl rfl rfl rfl rfl
          try dsimp only [putL, setL, evL, getL]
          refine HL_cons rfl ?_
          refine o_pickT rfl rfl ?_
          try dsimp only [putL, setL, evL, getL]
          refine HL_nil ?_
          exact hK40 _ _ ⟨true, H, rfl, hH.sel [0, 1, 2, 4] (by decide)⟩
        · replace H := iteF hb49 H
          refine HL_want ?_ ?_
          · exact wantT (j := 9) (b := false) (t := 79) (c := !u48) rfl rfl rfl rfl hb49
          refine o_move ?_
          try dsimp only [putL, setL, evL, getL]
          refine HL_want ?_ ?_
          · exact wantT (j := 9) (b := false) (t := 79) (c := !u48) rfl rfl rfl rfl hb49
          refine o_move ?_
          try dsimp only [putL, setL, evL, getL]
          refine HL_want ?_ ?_
          · exact wantT (j := 9) (b := false) (t := 79) (c := !u48) rfl rfl rfl rfl hb49
          refine o_neb rfl rfl Try.underlying4 ?_
          try dsimp only [putL, setL, evL, getL]
          refine HL_cons rfl ?_
          refine o_pickF rfl hb49 ?_
          try dsimp only [putL, setL, evL, getL]
          refine HL_cons rfl ?_
          refine o_move ?_
          try dsimp only [putL, setL, evL, getL]
          rcases Bool.eq_false_or_eq_true (u18.2 != u21.2) with hb50 | hb50
          · replace H := iteT hb50 H
            refine HL_skip ?_ ?_
            · exact wantF (j := 14) (b := false) (t := 84) (c := u18.2 != u21.2) rfl rfl rfl rfl hb50
            try dsimp only [putL, setL, evL, getL]
            refine HL_skip ?_ ?_
            · exact wantF (j := 14) (b := false) (t := 84) (c := u18.2 != u21.2) rfl rfl rfl rfl hb50
            try dsimp only [putL, setL, evL, getL]
            refine HL_skip ?_ ?_
            · exact wantF (j := 14) (b := false) (t := 84) (c := u18.2 != u21.2) rfl rfl rfl rfl hb50
            try dsimp only [putL, setL, evL, getL]
            refine HL_skip ?_ ?_
            · exact wantF (j := 14) (b := false) (t := 84) (c := u18.2 != u21.2) rfl rfl rfl rfl hb50
            try dsimp only [putL, setL, evL, getL]
            refine HL_cons rfl ?_
            refine o_pickT rfl hb50 ?_
            try dsimp only [putL, setL, evL, getL]
            refine HL_nil ?_
            exact hK40 _ _ ⟨true, H, rfl, hH.sel [0, 1, 2, 4] (by decide)⟩
          · replace H := iteF hb50 H
            refine HL_want ?_ ?_
            · exact wantT (j := 14) (b := false) (t := 84) (c := u18.2 != u21.2) rfl rfl rfl rfl hb50
            refine o_move ?_
            try dsimp only [putL, setL, evL, getL]
            refine HL_want ?_ ?_
            · exact wantT (j := 14) (b := false) (t := 84) (c := u18.2 != u21.2) rfl rfl rfl rfl hb50
            refine o_move ?_
            try dsimp only [putL, setL, evL, getL]
            replace H := headE H
            obtain ⟨u51, hu51, H⟩ := H
            refine HL_want ?_ ?_
            · exact wantT (j := 14) (b := false) (t := 84) (c := u18.2 != u21.2) rfl rfl rfl rfl hb50
            refine o_call (args := #[.slice A19 u18.1.length c19, .slice A22 u21.1.length c22]) Try.func18 rfl rfl rfl (laws_sameInts.ok s48 s48 no A19 c19 u18.1 A22 c22 u21.1 (hH.rd 4 rfl) (hH.rd 5 rfl) (Hp.own (Bs.refl s48)) _ hu51) ?_
            rintro _ s51 ⟨rfl, hD⟩
            replace hH := hH.back0T hD
            clear hD
            dsimp only [addC, setC, rmC, selC, getC] at hH
            try dsimp only [putL, setL, evL, getL]
            refine HL_want ?_ ?_
            · exact wantT (j := 14) (b := false) (t := 84) (c := u18.2 != u21.2) rfl rfl rfl rfl hb50
            refine o_not rfl ?_
            try dsimp only [putL, setL, evL, getL]
            refine HL_cons rfl ?_
            refine o_pickF rfl hb50 ?_
            try dsimp only [putL, setL, evL, getL]
            refine HL_nil ?_
            exact hK40 _ _ ⟨!u51, H, rfl, hH.sel [0, 1, 2, 4] (by decide)⟩
    · rintro l' s52 ⟨x46, H, hl, hH⟩
      generalize getL l' 70 = j70, getL l' 71 = j71, getL l' 72 = j72, getL l' 73 = j73, getL l' 74 = j74, getL l' 75 = j75, getL l' 76 = j76, getL l' 77 = j77, getL l' 78 = j78, getL l' 79 = j79, getL l' 80 = j80, getL l' 81 = j81, getL l' 82 = j82, getL l' 83 = j83, getL l' 84 = j84, getL l' 85 = j85, getL l' 86 = j86, getL l' 87 = j87, getL l' 88 = j88 at hl
      subst hl
      replace H := hG40 _ H
      try dsimp only at H
      rcases Bool.eq_false_or_eq_true x46 with hb53 | hb53
      · replace H := iteT hb53 H
        refine HT_true (congrArg Value.bool hb53) ?_
        refine HT_seq_k ?_
        intro K54 hK54
        refine HT_region ?_
        refine HL_cons rfl ?_
        refine o_assign ?_
        try dsimp only [putL, setL, evL, getL]
        refine HL_nil ?_
        refine hK54 _ _ ?_
        refine HT_ret ?_
        exact hQr _ _ [.bool false] ⟨rfl, trivial⟩ (retH (fun r => laws_FnDiff.post sb s F0 r _ _) (show some _ = some r from H) ⟨rfl, hH.sel [] (by decide)⟩)
      · replace H := iteF hb53 H
        refine HT_false (congrArg Value.bool hb53) ?_
        refine HT_skip ?_
        refine hK39 _ _ ?_
        refine joinH H fun G55 hG55 H => ?_
        refine HT_joinK (fun l' s' => G55 (.go ()) = some r ∧ l' = [.slice A0p p0.length c0p, .slice A1p p1.length c1p, undef, undef, getL l' 4, .slice A9 u8.1.length c9, .slice A10 u8.2.length c10, .slice A13 u12.1.length c13, .bool u12.2, .slice A16 u15.1.length c16, .bool u15.2, .slice A19 u18.1.length c19, .bool u18.2, .slice A22 u21.1.length c22, .bool u21.2, getL l' 15, getL l' 16, getL l' 17, getL l' 18, getL l' 19, getL l' 20, getL l' 21, getL l' 22, getL l' 23, getL l' 24, undef, undef, undef, undef, undef, undef, undef, undef, undef, undef, undef, undef, undef, .slice A0p p0.length c0p, .slice A1p p1.length c1p, .bool u4, .tuple #[.slice A9 u8.1.length c9, .slice A10 u8.2.length c10], .slice A0p p0.length c0p, .tuple #[.slice A9 u8.1.length c9, .slice A10 u8.2.length c10], .slice A9 u8.1.length c9, .slice A10 u8.2.length c10, .tuple #[.slice A13 u12.1.length c13, .bool u12.2], .slice A9 u8.1.length c9, .slice A10 u8.2.length c10, .tuple #[.slice A13 u12.1.length c13, .bool u12.2], .slice A13 u12.1.length c13, .bool u12.2, .tuple #[.slice A16 u15.1.length c16, .bool u15.2], .slice A9 u8.1.length c9, .slice A10 u8.2.length c10, .tuple #[.slice A16 u15.1.length c16, .bool u15.2], .slice A16 u15.1.length c16, .bool u15.2, .tuple #[.slice A19 u18.1.length c19, .bool u18.2], .slice A9 u8.1.length c9, .slice A10 u8.2.length c10, .tuple #[.slice A19 u18.1.length c19, .bool u18.2], .slice A19 u18.1.length c19, .bool u18.2, .tuple #[.slice A22 u21.1.length c22, .bool u21.2], .slice A9 u8.1.length c9, .slice A10 u8.2.length c10, .tuple #[.slice A22 u21.1.length c22, .bool u21.2], .slice A22 u21.1.length c22, .bool u21.2, j70, j71, j72, j73, j74, j75, j76, j77, j78, j79, j80, j81, j82, j83, j84, j85, j86, j87, j88, .bool x46, getL l' 90, getL l' 91, getL l' 92, getL l' 93, getL l' 94, getL l' 95, getL l' 96, getL l' 97, getL l' 98, getL l' 99, getL l' 100, getL l' 101, getL l' 102, getL l' 103, getL l' 104, getL l' 105, getL l' 106, getL l' 107, getL l' 108, getL l' 109, getL l' 110, getL l' 111, getL l' 112, getL l' 113, getL l' 114, getL l' 115, getL l' 116, getL l' 117, getL l' 118, getL l' 119, getL l' 120, getL l' 121, getL l' 122, getL l' 123, getL l' 124, getL l' 125, getL l' 126, getL l' 127, getL l' 128, getL l' 129, getL l' 130, getL l' 131, getL l' 132, getL l' 133, getL l' 134, getL l' 135, getL l' 136, getL l' 137, getL l' 138, getL l' 139, getL l' 140, getL l' 141, getL l' 142, getL l' 143, getL l' 144, getL l' 145, getL l' 146, getL l' 147, getL l' 148, getL l' 149, getL l' 150, getL l' 151, getL l' 152, getL l' 153, getL l' 154, getL l' 155, getL l' 156, getL l' 157, getL l' 158, getL l' 159, getL l' 160, getL l' 161, getL l' 162, getL l' 163, getL l' 164, getL l' 165, getL l' 166, getL l' 167, getL l' 168, getL l' 169, undef, undef, undef, undef, undef, undef, undef, undef, undef, undef, undef, undef, undef, undef, undef, undef, undef, undef, undef, undef, undef, undef, undef, undef, undef, undef, undef, undef, undef, undef, undef, undef, undef, undef, undef, undef, undef, undef, undef, undef, undef, undef, undef, undef, undef, undef, undef, undef, undef, undef, undef, undef, undef, undef, undef, undef, undef, undef, undef, undef, undef] ∧ Hp sb s F0 s' []) ?_ ?_
        · intro K55 hK55
          refine HT_seq_k ?_
          intro K97 hK97
          refine HT_region ?_
          refine HL_cons rfl ?_
          refine o_move ?_
          try dsimp only [putL, setL, evL, getL]
          refine HL_nil ?_
          refine hK97 _ _ ?_
          rcases Bool.eq_false_or_eq_true u12.2 with hb98 | hb98
          · replace H := iteT hb98 H
            refine HT_true (congrArg Value.bool hb98) ?_
            refine HT_seq_k ?_
            intro K99 hK99
            refine HT_region ?_
            refine HL_cons rfl ?_
            refine o_move ?_
            try dsimp only [putL, setL, evL, getL]
            refine HL_cons rfl ?_
            refine o_move ?_
            try dsimp only [putL, setL, evL, getL]
            replace H := headE H
            obtain ⟨u100, hu100, H⟩ := H
            refine HL_cons rfl ?_
            refine o_call (args := #[.slice A9 u8.1.length c9, .slice A13 u12.1.length c13]) Try.func72 rfl rfl rfl (impl_ApplyDiff.ok s52 s52 no A9 c9 u8.1 A13 c13 u12.1 (hH.rd 0 rfl) (hH.rd 2 rfl) (Hp.own (Bs.refl s52)) _ hu100) ?_
            rintro _ s100 ⟨A101, c101, rfl, hD⟩
            replace hH := hH.back0T hD
            clear hD
            dsimp only [addC, setC, rmC, selC, getC] at hH
            try dsimp only [putL, setL, evL, getL]
            refine HL_cons rfl ?_
            refine o_move ?_
            try dsimp only [putL, setL, evL, getL]
            refine HL_cons rfl ?_
            refine o_extract rfl rfl ?_
            try dsimp only [putL, setL, evL, getL]
            refine HL_cons rfl ?_
            refine o_extract rfl rfl ?_
            try dsimp only [putL, setL, evL, getL]
            refine HL_cons rfl ?_
            refine o_assign ?_
            try dsimp only [putL, setL, evL, getL]
            refine HL_cons rfl ?_
            refine o_assign ?_
            try dsimp only [putL, setL, evL, getL]
            refine HL_nil ?_
            refine hK99 _ _ ?_
            refine HT_seq_k ?_
            intro K102 hK102
            refine HT_region ?_
            refine HL_cons rfl ?_
            refine o_move ?_
            try dsimp only [putL, setL, evL, getL]
            replace H := headE H
            obtain ⟨u103, hu103, H⟩ := H
            refine HL_cons rfl ?_
            refine o_call (args := #[.slice A13 u12.1.length c13]) Try.func73 rfl rfl rfl (impl_TurnDiff.ok s100 s100 no A13 c13 u12.1 (hH.rd 2 rfl) (Hp.own (Bs.refl s100)) _ hu103) ?_
            rintro _ s103 ⟨A104, c104, rfl, hD⟩
            replace hH := hH.back0T hD
            clear hD
            dsimp only [addC, setC, rmC, selC, getC] at hH
            try dsimp only [putL, setL, evL, getL]
            refine HL_cons rfl ?_
            refine o_move ?_
            try dsimp only [putL, setL, evL, getL]
            refine HL_cons rfl ?_
            refine o_extract rfl rfl ?_
            try dsimp only [putL, setL, evL, getL]
            refine HL_cons rfl ?_
            refine o_extract rfl rfl ?_
            try dsimp only [putL, setL, evL, getL]
            refine HL_cons rfl ?_
            refine o_assign ?_
            try dsimp only [putL, setL, evL, getL]
            refine HL_cons rfl ?_
            refine o_assign ?_
            try dsimp only [putL, setL, evL, getL]
            refine HL_nil ?_
            refine hK102 _ _ ?_
            refine HT_seq_k ?_
            intro K105 hK105
            refine HT_region ?_
            refine HL_cons rfl ?_
            refine o_move ?_
            try dsimp only [putL, setL, evL, getL]
            refine HL_cons rfl ?_
            refine o_move ?_
            try dsimp only [putL, setL, evL, getL]
            replace H := headE H
            obtain ⟨u106, hu106, H⟩ := H
            refine HL_cons rfl ?_
            refine o_call (args := #[.slice A10 u8.2.length c10, .slice A104 u103.1.length c104]) Try.func72 rfl rfl rfl (impl_ApplyDiff.ok s103 s103 no A10 c10 u8.2 A104 c104 u103.1 (hH.rd 1 rfl) (hH.rd 5 rfl) (Hp.own (Bs.refl s103)) _ hu106) ?_
            rintro _ s106 ⟨A107, c107, rfl, hD⟩
            replace hH := hH.back0T hD
            clear hD
            dsimp only [addC, setC, rmC, selC, getC] at hH
            try dsimp only [putL, setL, evL, getL]
            refine HL_cons rfl ?_
            refine o_move ?_
            try dsimp only [putL, setL, evL, getL]
            refine HL_cons rfl ?_
            refine o_extract rfl rfl ?_
            try dsimp only [putL, setL, evL, getL]
            refine HL_cons rfl ?_
            refine o_extract rfl rfl ?_
            try dsimp only [putL, setL, evL, getL]
            refine HL_cons rfl ?_
            refine o_assign ?_
            try dsimp only [putL, setL, evL, getL]
            refine HL_cons rfl ?_
            refine o_assign ?_
            try dsimp only [putL, setL, evL, getL]
            refine HL_nil ?_
            refine hK105 _ _ ?_
            refine HT_seq_k ?_
            intro K108 hK108
            refine HT_region ?_
            refine HL_cons rfl ?_
            refine o_move ?_
            try dsimp only [putL, setL, evL, getL]
            refine HL_cons rfl ?_
            refine o_move ?_
            try dsimp only [putL, setL, evL, getL]
            replace H := headE H
            obtain ⟨u109, hu109, H⟩ := H
            refine HL_cons rfl ?_
            refine o_call (args := #[.slice A9 u8.1.length c9, .slice A10 u8.2.length c10]) Try.func16 rfl rfl rfl (impl_DistanceOf.ok s106 s106 no A9 c9 u8.1 A10 c10 u8.2 (hH.rd 0 rfl) (hH.rd 1 rfl) (Hp.own (Bs.refl s106)) _ hu109) ?_
            rintro _ s109 ⟨rfl, hD⟩
            replace hH := hH.back0T hD
            clear hD
            dsimp only [addC, setC, rmC, selC, getC] at hH
            try dsimp only [putL, setL, evL, getL]
            refine HL_cons rfl ?_
            refine o_move ?_
            try dsimp only [putL, setL, evL, getL]
            refine HL_cons rfl ?_
            refine o_extract rfl rfl ?_
            try dsimp only [putL, setL, evL, getL]
            refine HL_cons rfl ?_
            refine o_extract rfl rfl ?_
            try dsimp only [putL, setL, evL, getL]
            refine HL_cons rfl ?_
            refine o_assign ?_
            try dsimp only [putL, setL, evL, getL]
            refine HL_cons rfl ?_
            refine o_assign ?_
            try dsimp only [putL, setL, evL, getL]
            refine HL_nil ?_
            refine hK108 _ _ ?_
            refine HT_seq_k ?_
            intro K110 hK110
            refine HT_region ?_
            refine HL_cons rfl ?_
            refine o_move ?_
            try dsimp only [putL, setL, evL, getL]
            refine HL_cons rfl ?_
            refine o_move ?_
            try dsimp only [putL, setL, evL, getL]
            replace H := headE H
            obtain ⟨u111, hu111, H⟩ := H
            refine HL_cons rfl ?_
            refine o_call (args := #[.slice A10 u8.2.length c10, .slice A9 u8.1.length c9]) Try.func69 rfl rfl rfl (impl_CommonOf.ok s109 s109 no A10 c10 u8.2 A9 c9 u8.1 (hH.rd 1 rfl) (hH.rd 0 rfl) (Hp.own (Bs.refl s109)) _ hu111) ?_
            rintro _ s111 ⟨A112, c112, rfl, hD⟩
            replace hH := hH.back0T hD
            clear hD
            dsimp only [addC, setC, rmC, selC, getC] at hH
            try dsimp only [putL, setL, evL, getL]
            refine HL_cons rfl ?_
            refine o_move ?_
            try dsimp only [putL, setL, evL, getL]
            refine HL_cons rfl ?_
            refine o_extract rfl rfl ?_
            try dsimp only [putL, setL, evL, getL]
            refine HL_cons rfl ?_
            refine o_extract rfl rfl ?_
            try dsimp only [putL, setL, evL, getL]
            refine HL_cons rfl ?_
            refine o_assign ?_
            try dsimp only [putL, setL, evL, getL]
            refine HL_cons rfl ?_
            refine o_assign ?_
            try dsimp only [putL, setL, evL, getL]
            refine HL_nil ?_
            refine hK110 _ _ ?_
            refine joinH H fun G113 hG113 H => ?_
            refine HT_joinK (fun l' s' => ∃ (x124 : Bool), G113 x124 = some r ∧ l' = [.slice A0p p0.length c0p, .slice A1p p1.length c1p, undef, undef, .bool false, .slice A9 u8.1.length c9, .slice A10 u8.2.length c10, .slice A13 u12.1.length c13, .bool u12.2, .slice A16 u15.1.length c16, .bool u15.2, .slice A19 u18.1.length c19, .bool u18.2, .slice A22 u21.1.length c22, .bool u21.2, .slice A101 u100.1.length c101, .bool u100.2, .slice A104 u103.1.length c104, .bool u103.2, .slice A107 u106.1.length c107, .bool u106.2, .int .i64 u109.1, .bool u109.2, .slice A112 u111.1.length c112, .bool u111.2, undef, undef, undef, undef, undef, undef, undef, undef, undef, undef, undef, undef, undef, .slice A0p p0.length c0p, .slice A1p p1.length c1p, .bool u4, .tuple #[.slice A9 u8.1.length c9, .slice A10 u8.2.length c10], .slice A0p p0.length c0p, .tuple #[.slice A9 u8.1.length c9, .slice A10 u8.2.length c10], .slice A9 u8.1.length c9, .slice A10 u8.2.length c10, .tuple #[.slice A13 u12.1.length c13, .bool u12.2], .slice A9 u8.1.length c9, .slice A10 u8.2.length c10, .tuple #[.slice A13 u12.1.length c13, .bool u12.2], .slice A13 u12.1.length c13, .bool u12.2, .tuple #[.slice A16 u15.1.length c16, .bool u15.2], .slice A9 u8.1.length c9, .slice A10 u8.2.length c10, .tuple #[.slice A16 u15.1.length c16, .bool u15.2], .slice A16 u15.1.length c16, .bool u15.2, .tuple #[.slice A19 u18.1.length c19, .bool u18.2], .slice A9 u8.1.length c9, .slice A10 u8.2.length c10, .tuple #[.slice A19 u18.1.length c19, .bool u18.2], .slice A19 u18.1.length c19, .bool u18.2, .tuple #[.slice A22 u21.1.length c22, .bool u21.2], .slice A9 u8.1.length c9, .slice A10 u8.2.length c10, .tuple #[.slice A22 u21.1.length c22, .bool u21.2], .slice A22 u21.1.length c22, .bool u21.2, j70, j71, j72, j73, j74, j75, j76, j77, j78, j79, j80, j81, j82, j83, j84, j85, j86, j87, j88, .bool x46, .bool u12.2, .tuple #[.slice A101 u100.1.length c101, .bool u100.2], .slice A9 u8.1.length c9, .slice A13 u12.1.length c13, .tuple #[.slice A101 u100.1.length c101, .bool u100.2], .slice A101 u100.1.length c101, .bool u100.2, .tuple #[.slice A104 u103.1.length c104, .bool u103.2], .slice A13 u12.1.length c13, .tuple #[.slice A104 u103.1.length c104, .bool u103.2], .slice A104 u103.1.length c104, .bool u103.2, .tuple #[.slice A107 u106.1.length c107, .bool u106.2], .slice A10 u8.2.length c10, .slice A104 u103.1.length c104, .tuple #[.slice A107 u106.1.length c107, .bool u106.2], .slice A107 u106.1.length c107, .bool u106.2, .tuple #[.int .i64 u109.1, .bool u109.2], .slice A9 u8.1.length c9, .slice A10 u8.2.length c10, .tuple #[.int .i64 u109.1, .bool u109.2], .int .i64 u109.1, .bool u109.2, .tuple #[.slice A112 u111.1.length c112, .bool u111.2], .slice A10 u8.2.length c10, .slice A9 u8.1.length c9, .tuple #[.slice A112 u111.1.length c112, .bool u111.2], .slice A112 u111.1.length c112, .bool u111.2, getL l' 120, getL l' 121, getL l' 122, getL l' 123, getL l' 124, getL l' 125, getL l' 126, getL l' 127, getL l' 128, getL l' 129, getL l' 130, getL l' 131, getL l' 132, getL l' 133, getL l' 134, getL l' 135, getL l' 136, getL l' 137, getL l' 138, getL l' 139, getL l' 140, getL l' 141, getL l' 142, getL l' 143, getL l' 144, getL l' 145, getL l' 146, getL l' 147, getL l' 148, getL l' 149, getL l' 150, getL l' 151, getL l' 152, getL l' 153, getL l' 154, getL l' 155, getL l' 156, getL l' 157, getL l' 158, getL l' 159, getL l' 160, getL l' 161, getL l' 162, getL l' 163, getL l' 164, getL l' 165, getL l' 166, getL l' 167, getL l' 168, .bool x124, undef, undef, undef, undef, undef, undef, undef, undef, undef, undef, undef, undef, undef, undef, undef, undef, undef, undef, undef, undef, undef, undef, undef, undef, undef, undef, undef, undef, undef, undef, undef, undef, undef, undef, undef, undef, undef, undef, undef, undef, undef, undef, undef, undef, undef, undef, undef, undef, undef, undef, undef, undef, undef, undef, undef, undef, undef, undef, undef, undef, undef] ∧ Hp sb s F0 s' []) ?_ ?_
            · intro K113 hK113
              refine HT_region ?_
              refine HL_cons rfl ?_
              refine o_move ?_
              try dsimp only [putL, setL, evL, getL]
              refine HL_cons rfl ?_
              refine o_not rfl ?_
              try dsimp only [putL, setL, evL, getL]
              refine HL_cons rfl ?_
              refine o_move ?_
              try dsimp only [putL, setL, evL, getL]
              rcases Bool.eq_false_or_eq_true (!u100.2) with hb125 | hb125
              · replace H := iteT hb125 H
                refine HL_skip ?_ ?_
                · exact wantF (j := 2) (b := false) (t := 122) (c := !u100.2) rfl rfl rfl rfl hb125
                try dsimp only [putL, setL, evL, getL]
                refine HL_skip ?_ ?_
                · exact wantF (j := 2) (b := false) (t := 122) (c := !u100.2) rfl rfl rfl rfl hb125
                try dsimp only [putL, setL, evL, getL]
                refine HL_skip ?_ ?_
                · exact wantF (j := 2) (b := false) (t := 122) (c := !u100.2) rfl rfl rfl rfl hb125
                try dsimp only [putL, setL, evL, getL]
                refine HL_skip ?_ ?_
                · exact wantF (j := 2) (b := false) (t := 122) (c := !u100.2) rfl rfl rfl rfl hb125
                try dsimp only [putL, setL, evL, getL]
                refine HL_cons rfl ?_
                refine o_pickT rfl hb125 ?_
                try dsimp only [putL, setL, evL, getL]
                refine HL_cons rfl ?_
                refine o_move ?_
                try dsimp only [putL, setL, evL, getL]
                refine HL_skip ?_ ?_
                · exact wantF (j := 8) (b := false) (t := 128) (c := true) rfl rfl rfl rfl rfl
                try dsimp only [putL, setL, evL, getL]
                refine HL_skip ?_ ?_
                · exact wantF (j := 8) (b := false) (t := 128) (c := true) rfl rfl rfl rfl rfl
                try dsimp only [putL, setL, evL, getL]
                refine HL_cons rfl ?_
                refine o_pickT rfl rfl ?_
                try dsimp only [putL, setL, evL, getL]
                refine HL_cons rfl ?_
                refine o_move ?_
                try dsimp only [putL, setL, evL, getL]
                refine HL_skip ?_ ?_
                · exact wantF (j := 12) (b := false) (t := 132) (c := true) rfl rfl rfl rfl rfl
                try dsimp only [putL, setL, evL, getL]
                refine HL_skip ?_ ?_
                · exact wantF (j := 12) (b := false) (t := 132) (c := true) rfl rfl rfl rfl rfl
                try dsimp only [putL, setL, evL, getL]
                refine HL_cons rfl ?_
                refine o_pickT rfl rfl ?_
                try dsimp only [putL, setL, evL, getL]
                refine HL_cons rfl ?_
                refine o_move ?_
                try dsimp only [putL, setL, evL, getL]
                refine HL_skip ?_ ?_
                · exact wantF (j := 16) (b := false) (t := 136) (c := true) rfl rfl rfl rfl rfl
                try dsimp only [putL, setL, evL, getL]
                refine HL_skip ?_ ?_
                · exact wantF (j := 16) (b := false) (t := 136) (c := true) rfl rfl rfl rfl rfl
                try dsimp only [putL, setL, evL, getL]
                refine HL_skip ?_ ?_
                · exact wantF (j := 16) (b := false) (t := 136) (c := true) rfl rfl rfl rfl rfl
                try dsimp only [putL, setL, evL, getL]
                refine HL_skip ?_ ?_
                · exact wantF (j := 16) (b := false) (t := 136) (c := true) rfl rfl rfl rfl rfl
                try dsimp only [putL, setL, evL, getL]
                refine HL_cons rfl ?_
                refine o_pickT rfl rfl ?_
                try dsimp only [putL, setL, evL, getL]
                refine HL_cons rfl ?_
                refine o_move ?_
                try dsimp only [putL, setL, evL, getL]
                refine HL_skip ?_ ?_
                · exact wantF (j := 22) (b := false) (t := 142) (c := true) rfl rfl rfl rfl rfl
                try dsimp only [putL, setL, evL, getL]
                refine HL_skip ?_ ?_
                · exact wantF (j := 22) (b := false) (t := 142) (c := true) rfl rfl rfl rfl rfl
                try dsimp only [putL, setL, evL, getL]
                refine HL_cons rfl ?_
                refine o_pickT rfl rfl ?_
                try dsimp only [putL, setL, evL, getL]
                refine HL_cons rfl ?_
                refine o_move ?_
                try dsimp only [putL, setL, evL, getL]
                refine HL_skip ?_ ?_
                · exact wantF (j := 26) (b := false) (t := 146) (c := true) rfl rfl rfl rfl rfl
                try dsimp only [putL, setL, evL, getL]
                refine HL_skip ?_ ?_
                · exact wantF (j := 26) (b := false) (t := 146) (c := true) rfl rfl rfl rfl rfl
                try dsimp only [putL, setL, evL, getL]
                refine HL_skip ?_ ?_
                · exact wantF (j := 26) (b := false) (t := 146) (c := true) rfl rfl rfl rfl rfl
                try dsimp only [putL, setL, evL, getL]
                refine HL_skip ?_ ?_
                · exact wantF (j := 26) (b := false) (t := 146) (c := true) rfl rfl rfl rfl rfl
                try dsimp only [putL, setL, evL, getL]
                refine HL_skip ?_ ?_
                · exact wantF (j := 26) (b := false) (t := 146) (c := true) rfl rfl rfl rfl rfl
                try dsimp only [putL, setL, evL, getL]
                refine HL_skip ?_ ?_
                · exact wantF (j := 26) (b := false) (t := 146) (c := true) rfl rfl rfl rfl rfl
                try dsimp only [putL, setL, evL, getL]
                refine HL_skip ?_ ?_
                · exact wantF (j := 26) (b := false) (t := 146) (c := true) rfl rfl rfl rfl rfl
                try dsimp only [putL, setL, evL, getL]
                refine HL_skip ?_ ?_
                · exact wantF (j := 26) (b := false) (t := 146) (c := true) rfl rfl rfl rfl rfl
                try dsimp only [putL, setL, evL, getL]
                refine HL_skip ?_ ?_
                · exact wantF (j := 26) (b := false) (t := 146) (c := true) rfl rfl rfl rfl rfl
                try dsimp only [putL, setL, evL, getL]
                refine HL_skip ?_ ?_
                · exact wantF (j := 26) (b := false) (t := 146) (c := true) rfl rfl rfl rfl rfl
                try dsimp only [putL, setL, evL, getL]
                refine HL_skip ?_ ?_
                · exact wantF (j := 26) (b := false) (t := 146) (c := true) rfl rfl rfl rfl rfl
                try dsimp only [putL, setL, evL, getL]
                refine HL_cons rfl ?_
                refine o_pickT rfl rfl ?_
                try dsimp only [putL, setL, evL, getL]
                refine HL_cons rfl ?_
                refine o_move ?_
                try dsimp only [putL, setL, evL, getL]
                refine HL_skip ?_ ?_
                · exact wantF (j := 39) (b := false) (t := 159) (c := true) rfl rfl rfl rfl rfl
                try dsimp only [putL, setL, evL, getL]
                refine HL_skip ?_ ?_
                · exact wantF (j := 39) (b := false) (t := 159) (c := true) rfl rfl rfl rfl rfl
                try dsimp only [putL, setL, evL, getL]
                refine HL_cons rfl ?_
                refine o_pickT rfl rfl ?_
                try dsimp only [putL, setL, evL, getL]
                refine HL_cons rfl ?_
                refine o_move ?_
                try dsimp only [putL, setL, evL, getL]
                refine HL_skip ?_ ?_
                · exact wantF (j := 43) (b := false) (t := 163) (c := true) rfl rfl rfl rfl rfl
                try dsimp only [putL, setL, evL, getL]
                refine HL_skip ?_ ?_
                · exact wantF (j := 43) (b := false) (t := 163) (c := true) rfl rfl rfl rfl rfl
                try dsimp only [putL, setL, evL, getL]
                refine HL_skip ?_ ?_
                · exact wantF (j := 43) (b := false) (t := 163) (c := true) rfl rfl rfl rfl rfl
                try dsimp only [putL, setL, evL, getL]
                refine HL_skip ?_ ?_
                · exact wantF (j := 43) (b := false) (t := 163) (c := true) rfl rfl rfl rfl rfl
                try dsimp only [putL, setL, evL, getL]
                refine HL_skip ?_ ?_
                · exact wantF (j := 43) (b := false) (t := 163) (c := true) rfl rfl rfl rfl rfl
                try dsimp only [putL, setL, evL, getL]
                refine HL_cons rfl ?_
                refine o_pickT rfl rfl ?_
                try dsimp only [putL, setL, evL, getL]
                refine HL_nil ?_
                exact hK113 _ _ ⟨true, H, rfl, hH.sel [] (by decide)⟩
              · replace H := iteF hb125 H
                refine HL_want ?_ ?_
                · exact wantT (j := 2) (b := false) (t := 122) (c := !u100.2) rfl rfl rfl rfl hb125
                refine o_move ?_
                try dsimp only [putL, setL, evL, getL]
                refine HL_want ?_ ?_
                · exact wantT (j := 2) (b := false) (t := 122) (c := !u100.2) rfl rfl rfl rfl hb125
                refine o_move ?_
                try dsimp only [putL, setL, evL, getL]
                replace H := headE H
                obtain ⟨u126, hu126, H⟩ := H
                refine HL_want ?_ ?_
                · exact wantT (j := 2) (b := false) (t := 122) (c := !u100.2) rfl rfl rfl rfl hb125
                refine o_call (args := #[.slice A101 u100.1.length c101, .slice A10 u8.2.length c10]) Try.func18 rfl rfl rfl (laws_sameInts.ok s111 s111 no A101 c101 u100.1 A10 c10 u8.2 (hH.rd 4 rfl) (hH.rd 1 rfl) (Hp.own (Bs.refl s111)) _ hu126) ?_
                rintro _ s126 ⟨rfl, hD⟩
                replace hH := hH.back0T hD
                clear hD
                dsimp only [addC, setC, rmC, selC, getC] at hH
                try dsimp only [putL, setL, evL, getL]
                refine HL_want ?_ ?_
                · exact wantT (j := 2) (b := false) (t := 122) (c := !u100.2) rfl rfl rfl rfl hb125
                refine o_not rfl ?_
                try dsimp only [putL, setL, evL, getL]
                refine HL_cons rfl ?_
                refine o_pickF rfl hb125 ?_
                try dsimp only [putL, setL, evL, getL]
                refine HL_cons rfl ?_
                refine o_move ?_
                try dsimp only [putL, setL, evL, getL]
                rcases Bool.eq_false_or_eq_true (!u126) with hb127 | hb127
                · replace H := iteT hb127 H
                  refine HL_skip ?_ ?_
                  · exact wantF (j := 8) (b := false) (t := 128) (c := !u126) rfl rfl rfl rfl hb127
                  try dsimp only [putL, setL, evL, getL]
                  refine HL_skip ?_ ?_
                  · exact wantF (j := 8) (b := false) (t := 128) (c := !u126) rfl rfl rfl rfl hb127
                  try dsimp only [putL, setL, evL, getL]
                  refine HL_cons rfl ?_
                  refine o_pickT rfl hb127 ?_
                  try dsimp only [putL, setL, evL, getL]
                  refine HL_cons rfl ?_
                  refine o_move ?_
                  try dsimp only [putL, setL, evL, getL]
                  refine HL_skip ?_ ?_
                  · exact wantF (j := 12) (b := false) (t := 132) (c := true) rfl rfl rfl rfl rfl
                  try dsimp only [putL, setL, evL, getL]
                  refine HL_skip ?_ ?_
                  · exact wantF (j := 12) (b := false) (t := 132) (c := true) rfl rfl rfl rfl rfl
                  try dsimp only [putL, setL, evL, getL]
                  refine HL_cons rfl ?_
                  refine o_pickT rfl rfl ?_
                  try dsimp only [putL, setL, evL, getL]
                  refine HL_cons rfl ?_
                  refine o_move ?_
                  try dsimp only [putL, setL, evL, getL]
                  refine HL_skip ?_ ?_
                  · exact wantF (j := 16) (b := false) (t := 136) (c := true) rfl rfl rfl rfl rfl
                  try dsimp only [putL, setL, evL, getL]
                  refine HL_skip ?_ ?_
                  · exact wantF (j := 16) (b := false) (t := 136) (c := true) rfl rfl rfl rfl rfl
                  try dsimp only [putL, setL, evL, getL]
                  refine HL_skip ?_ ?_
                  · exact wantF (j := 16) (b := false) (t := 136) (c := true) rfl rfl rfl rfl rfl
                  try dsimp only [putL, setL, evL, getL]
                  refine HL_skip ?_ ?_
                  · exact wantF (j := 16) (b := false) (t := 136) (c := true) rfl rfl rfl rfl rfl
                  try dsimp only [putL, setL, evL, getL]
                  refine HL_cons rfl ?_
                  refine o_pickT rfl rfl ?_
                  try dsimp only [putL, setL, evL, getL]
                  refine HL_cons rfl ?_
                  refine o_move ?_
                  try dsimp only [putL, setL, evL, getL]
                  refine HL_skip ?_ ?_
                  · exact wantF (j := 22) (b := false) (t := 142) (c := true) rfl rfl rfl rfl rfl
                  try dsimp only [putL, setL, evL, getL]
                  refine HL_skip ?_ ?_
                  · exact wantF (j := 22) (b := false) (t := 142) (c := true) rfl rfl rfl rfl rfl
                  try dsimp only [putL, setL, evL, getL]
                  refine HL_cons rfl ?_
                  refine o_pickT rfl rfl ?_
                  try dsimp only [putL, setL, evL, getL]
                  refine HL_cons rfl ?_
                  refine o_move ?_
                  try dsimp only [putL, setL, evL, getL]
                  refine HL_skip ?_ ?_
                  · exact wantF (j := 26) (b := false) (t := 146) (c := true) rfl rfl rfl rfl rfl
                  try dsimp only [putL, setL, evL, getL]
                  refine HL_skip ?_ ?_
                  · exact wantF (j := 26) (b := false) (t := 146) (c := true) rfl rfl rfl rfl rfl
                  try dsimp only [putL, setL, evL, getL]
                  refine HL_skip ?_ ?_
                  · exact wantF (j := 26) (b := false) (t := 146) (c := true) rfl rfl rfl rfl rfl
                  try dsimp only [putL, setL, evL, getL]
                  refine HL_skip ?_ ?_
                  · exact wantF (j := 26) (b := false) (t := 146) (c := true) rfl rfl rfl rfl rfl
                  try dsimp only [putL, setL, evL, getL]
                  refine HL_skip ?_ ?_
                  · exact wantF (j := 26) (b := false) (t := 146) (c := true) rfl rfl rfl rfl rfl
                  try dsimp only [putL, setL, evL, getL]
                  refine HL_skip ?_ ?_
                  · exact wantF (j := 26) (b := false) (t := 146) (c := true) rfl rfl rfl rfl rfl
                  try dsimp only [putL, setL, evL, getL]
                  refine HL_skip ?_ ?_
                  · exact wantF (j := 26) (b := false) (t := 146) (c := true) rfl rfl rfl rfl rfl
                  try dsimp only [putL, setL, evL, getL]
                  refine HL_skip ?_ ?_
                  · exact wantF (j := 26) (b := false) (t := 146) (c := true) rfl rfl rfl rfl rfl
                  try dsimp only [putL, setL, evL, getL]
                  refine HL_skip ?_ ?_
                  · exact wantF (j := 26) (b := false) (t := 146) (c := true) rfl rfl rfl rfl rfl
                  try dsimp only [putL, setL, evL, getL]
                  refine HL_skip ?_ ?_
                  · exact wantF (j := 26) (b := false) (t := 146) (c := true) rfl rfl rfl rfl rfl
                  try dsimp only [putL, setL, evL, getL]
                  refine HL_skip ?_ ?_
                  · exact wantF (j := 26) (b := false) (t := 146) (c := true) rfl rfl rfl rfl rfl
                  try dsimp only [putL, setL, evL, getL]
                  refine HL_cons rfl ?_
                  refine o_pickT rfl rfl ?_
                  try dsimp only [putL, setL, evL, getL]
                  refine HL_cons rfl ?_
                  refine o_move ?_
                  try dsimp only [putL, setL, evL, getL]
                  refine HL_skip ?_ ?_
                  · exact wantF (j := 39) (b := false) (t := 159) (c := true) rfl rfl rfl rfl rfl
                  try dsimp only [putL, setL, evL, getL]
                  refine HL_skip ?_ ?_
                  · exact wantF (j := 39) (b := false) (t := 159) (c := true) rfl rfl rfl rfl rfl
                  try dsimp only [putL, setL, evL, getL]
                  refine HL_cons rfl ?_
                  refine o_pickT rfl rfl ?_
                  try dsimp only [putL, setL, evL, getL]
                  refine HL_cons rfl ?_
                  refine o_move ?_
                  try dsimp only [putL, setL, evL, getL]
                  refine HL_skip ?_ ?_
                  · exact wantF (j := 43) (b := false) (t := 163) (c := true) rfl rfl rfl rfl rfl
                  try dsimp only [putL, setL, evL, getL]
                  refine HL_skip ?_ ?_
                  · exact wantF (j := 43) (b := false) (t := 163) (c := true) rfl rfl rfl rfl rfl
                  try dsimp only [putL, setL, evL, getL]
                  refine HL_skip ?_ ?_
                  · exact wantF (j := 43) (b := false) (t := 163) (c := true) rfl rfl rfl rfl rfl
                  try dsimp only [putL, setL, evL, getL]
                  refine HL_skip ?_ ?_
                  · exact wantF (j := 43) (b := false) (t := 163) (c := true) rfl rfl rfl rfl rfl
                  try dsimp only [putL, setL, evL, getL]
                  refine HL_skip ?_ ?_
                  · exact wantF (j := 43) (b := false) (t := 163) (c := true) rfl rfl rfl rfl rfl
                  try dsimp only [putL, setL, evL, getL]
                  refine HL_cons rfl ?_
                  refine o_pickT rfl rfl ?_
                  try dsimp only [putL, setL, evL, getL]
                  refine HL_nil ?_
                  exact hK113 _ _ ⟨true, H, rfl, hH.sel [] (by decide)⟩
                · replace H := iteF hb127 H
                  refine HL_want ?_ ?_
                  · exact wantT (j := 8) (b := false) (t := 128) (c := !u126) rfl rfl rfl rfl hb127
                  refine o_move ?_
                  try dsimp only [putL, setL, evL, getL]
                  refine HL_want ?_ ?_
                  · exact wantT (j := 8) (b := false) (t := 128) (c := !u126) rfl rfl rfl rfl hb127
                  refine o_not rfl ?_
                  try dsimp only [putL, setL, evL, getL]
                  refine HL_cons rfl ?_
                  refine o_pickF rfl hb127 ?_
                  try dsimp only [putL, setL, evL, getL]
                  refine HL_cons rfl ?_
                  refine o_move ?_
                  try dsimp only [putL, setL, evL, getL]
                  rcases Bool.eq_false_or_eq_true (!u103.2) with hb128 | hb128
                  · replace H := iteT hb128 H
                    refine HL_skip ?_ ?_
                    · exact wantF (j := 12) (b := false) (t := 132) (c := !u103.2) rfl rfl rfl rfl hb128
                    try dsimp only [putL, setL, evL, getL]
                    refine HL_skip ?_ ?_
                    · exact wantF (j := 12) (b := false) (t := 132) (c := !u103.2) rfl rfl rfl rfl hb128
                    try dsimp only [putL, setL, evL, getL]
                    refine HL_cons rfl ?_
                    refine o_pickT rfl hb128 ?_
                    try dsimp only [putL, setL, evL, getL]
                    refine HL_cons rfl ?_
                    refine o_move ?_
                    try dsimp only [putL, setL, evL, getL]
                    refine HL_skip ?_ ?_
                    · exact wantF (j := 16) (b := false) (t := 136) (c := true) rfl rfl rfl rfl rfl
                    try dsimp only [putL, setL, evL, getL]
                    refine HL_skip ?_ ?_
                    · exact wantF (j := 16) (b := false) (t := 136) (c := true) rfl rfl rfl rfl rfl
                    try dsimp only [putL, setL, evL, getL]
                    refine HL_skip ?_ ?_
                    · exact wantF (j := 16) (b := false) (t := 136) (c := true) rfl rfl rfl rfl rfl
                    try dsimp only [putL, setL, evL, getL]
                    refine HL_skip ?_ ?_
                    · exact wantF (j := 16) (b := false) (t := 136) (c := true) rfl rfl rfl rfl rfl
                    try dsimp only [putL, setL, evL, getL]
                    refine HL_cons rfl ?_
                    refine o_pickT rfl rfl ?_
                    try dsimp only [putL, setL, evL, getL]
                    refine HL_cons rfl ?_
                    refine o_move ?_
                    try dsimp only [putL, setL, evL, getL]
                    refine HL_skip ?_ ?_
                    · exact wantF (j := 22) (b := false) (t := 142) (c := true) rfl rfl rfl rfl rfl
                    try dsimp only [putL, setL, evL, getL]
                    refine HL_skip ?_ ?_
                    · exact wantF (j := 22) (b := false) (t := 142) (c := true) rfl rfl rfl rfl rfl
                    try dsimp only [putL, setL, evL, getL]
                    refine HL_cons rfl ?_
                    refine o_pickT rfl rfl ?_
                    try dsimp only [putL, setL, evL, getL]
                    refine HL_cons rfl ?_
                    refine o_move ?_
                    try dsimp only [putL, setL, evL, getL]
                    refine HL_skip ?_ ?_
                    · exact wantF (j := 26) (b := false) (t := 146) (c := true) rfl rfl rfl rfl rfl
                    try dsimp only [putL, setL, evL, getL]
                    refine HL_skip ?_ ?_
                    · exact wantF (j := 26) (b := false) (t := 146) (c := true) rfl rfl rfl rfl rfl
                    try dsimp only [putL, setL, evL, getL]
                    refine HL_skip ?_ ?_
                    · exact wantF (j := 26) (b := false) (t := 146) (c := true) rfl rfl rfl rfl rfl
                    try dsimp only [putL, setL, evL, getL]
                    refine HL_skip ?_ ?_
                    · exact wantF (j := 26) (b := false) (t := 146) (c := true) rfl rfl rfl rfl rfl
                    try dsimp only [putL, setL, evL, getL]
                    refine HL_skip ?_ ?_
                    · exact wantF (j := 26) (b := false) (t := 146) (c := true) rfl rfl rfl rfl rfl
                    try dsimp only [putL, setL, evL, getL]
                    refine HL_skip ?_ ?_
                    · exact wantF (j := 26) (b := false) (t := 146) (c := true) rfl rfl rfl rfl rfl
                    try dsimp only [putL, setL, evL, getL]
                    refine HL_skip ?_ ?_
                    · exact wantF (j := 26) (b := false) (t := 146) (c := true) rfl rfl rfl rfl rfl
                    try dsimp only [putL, setL, evL, getL]
                    refine HL_skip ?_ ?_
                    · exact wantF (j := 26) (b := false) (t := 146) (c := true) rfl rfl rfl rfl rfl
                    try dsimp only [putL, setL, evL, getL]
                    refine HL_skip ?_ ?_
                    · exact wantF (j := 26) (b := false) (t := 146) (c := true) rfl rfl rfl rfl rfl
                    try dsimp only [putL, setL, evL, getL]
                    refine HL_skip ?_ ?_
                    · exact wantF (j := 26) (b := false) (t := 146) (c := true) rfl rfl rfl rfl rfl
                    try dsimp only [putL, setL, evL, getL]
                    refine HL_skip ?_ ?_
                    · exact wantF (j := 26) (b := false) (t := 146) (c := true) rfl rfl rfl rfl rfl
                    try dsimp only [putL, setL, evL, getL]
                    refine HL_cons rfl ?_
                    refine o_pickT rfl rfl ?_
                    try dsimp only [putL, setL, evL, getL]
                    refine HL_cons rfl ?_
                    refine o_move ?_
                    try dsimp only [putL, setL, evL, getL]
                    refine HL_skip ?_ ?_
                    · exact wantF (j := 39) (b := false) (t := 159) (c := true) rfl rfl rfl rfl rfl
                    try dsimp only [putL, setL, evL, getL]
                    refine HL_skip ?_ ?_
                    · exact wantF (j := 39) (b := false) (t := 159) (c := true) rfl rfl rfl rfl rfl
                    try dsimp only [putL, setL, evL, getL]
                    refine HL_cons rfl ?_
                    refine o_pickT rfl rfl ?_
                    try dsimp only [putL, setL, evL, getL]
                    refine HL_cons rfl ?_
                    refine o_move ?_
                    try dsimp only [putL, setL, evL, getL]
                    refine HL_skip ?_ ?_
                    · exact wantF (j := 43) (b := false) (t := 163) (c := true) rfl rfl rfl rfl rfl
                    try dsimp only [putL, setL, evL, getL]
                    refine HL_skip ?_ ?_
                    · exact wantF (j := 43) (b := false) (t := 163) (c := true) rfl rfl rfl rfl rfl
                    try dsimp only [putL, setL, evL, getL]
                    refine HL_skip ?_ ?_
                    · exact wantF (j := 43) (b := false) (t := 163) (c := true) rfl rfl rfl rfl rfl
                    try dsimp only [putL, setL, evL, getL]
                    refine HL_skip ?_ ?_
                    · exact wantF (j := 43) (b := false) (t := 163) (c := true) rfl rfl rfl rfl rfl
                    try dsimp only [putL, setL, evL, getL]
                    refine HL_skip ?_ ?_
                    · exact wantF (j := 43) (b := false) (t := 163) (c := true) rfl rfl rfl rfl rfl
                    try dsimp only [putL, setL, evL, getL]
                    refine HL_cons rfl ?_
                    refine o_pickT rfl rfl ?_
                    try dsimp only [putL, setL, evL, getL]
                    refine HL_nil ?_
                    exact hK113 _ _ ⟨true, H, rfl, hH.sel [] (by decide)⟩
                  · replace H := iteF hb128 H
                    refine HL_want ?_ ?_
                    · exact wantT (j := 12) (b := false) (t := 132) (c := !u103.2) rfl rfl rfl rfl hb128
                    refine o_move ?_
                    try dsimp only [putL, setL, evL, getL]
                    refine HL_want ?_ ?_
                    · exact wantT (j := 12) (b := false) (t := 132) (c := !u103.2) rfl rfl rfl rfl hb128
                    refine o_not rfl ?_
                    try dsimp only [putL, setL, evL, getL]
                    refine HL_cons rfl ?_
                    refine o_pickF rfl hb128 ?_
                    try dsimp only [putL, setL, evL, getL]
                    refine HL_cons rfl ?_
                    refine o_move ?_
                    try dsimp only [putL, setL, evL, getL]
                    rcases Bool.eq_false_or_eq_true (!u106.2) with hb129 | hb129
                    · replace H := iteT hb129 H
                      refine HL_skip ?_ ?_
                      · exact wantF (j := 16) (b := false) (t := 136) (c := !u106.2) rfl rfl rfl rfl hb129
                      try dsimp only [putL, setL, evL, getL]
                      refine HL_skip ?_ ?_
                      · exact wantF (j := 16) (b := false) (t := 136) (c := !u106.2) rfl rfl rfl rfl hb129
                      try dsimp only [putL, setL, evL, getL]
                      refine HL_skip ?_ ?_
                      · exact wantF (j := 16) (b := false) (t := 136) (c := !u106.2) rfl rfl rfl rfl hb129
                      try dsimp only [putL, setL, evL, getL]
                      refine HL_skip ?_ ?_
                      · exact wantF (j := 16) (b := false) (t := 136) (c := !u106.2) rfl rfl rfl rfl hb129
                      try dsimp only [putL, setL, evL, getL]
                      refine HL_cons rfl ?_
                      refine o_pickT rfl hb129 ?_
                      try dsimp only [putL, setL, evL, getL]
                      refine HL_cons rfl ?_
                      refine o_move ?_
                      try dsimp only [putL, setL, evL, getL]
                      refine HL_skip ?_ ?_
                      · exact wantF (j := 22) (b := false) (t := 142) (c := true) rfl rfl rfl rfl rfl
                      try dsimp only [putL, setL, evL, getL]
                      refine HL_skip ?_ ?_
                      · exact wantF (j := 22) (b := false) (t := 142) (c := true) rfl rfl rfl rfl rfl
                      try dsimp only [putL, setL, evL, getL]
                      refine HL_cons rfl ?_
                      refine o_pickT rfl rfl ?_
                      try dsimp only [putL, setL, evL, getL]
                      refine HL_cons rfl ?_
                      refine o_move ?_
                      try dsimp only [putL, setL, evL, getL]
                      refine HL_skip ?_ ?_
                      · exact wantF (j := 26) (b := false) (t := 146) (c := true) rfl rfl rfl rfl rfl
                      try dsimp only [putL, setL, evL, getL]
                      refine HL_skip ?_ ?_
                      · exact wantF (j := 26) (b := false) (t := 146) (c := true) rfl rfl rfl rfl rfl
                      try dsimp only [putL, setL, evL, getL]
                      refine HL_skip ?_ ?_
                      · exact wantF (j := 26) (b := false) (t := 146) (c := true) rfl rfl rfl rfl rfl
                      try dsimp only [putL, setL, evL, getL]
                      refine HL_skip ?_ ?_
                      · exact wantF (j := 26) (b := false) (t := 146) (c := true) rfl rfl rfl rfl rfl
                      try dsimp only [putL, setL, evL, getL]
                      refine HL_skip ?_ ?_
                      · exact wantF (j := 26) (b := false) (t := 146) (c := true) rfl rfl rfl rfl rfl
                      try dsimp only [putL, setL, evL, getL]
                      refine HL_skip ?_ ?_
                      · exact wantF (j := 26) (b := false) (t := 146) (c := true) rfl rfl rfl rfl rfl
                      try dsimp only [putL, setL, evL, getL]
                      refine HL_skip ?_ ?_
                      · exact wantF (j := 26) (b := false) (t := 146) (c := true) rfl rfl rfl rfl rfl
                      try dsimp only [putL, setL, evL, getL]
                      refine HL_skip ?_ ?_
                      · exact wantF (j := 26) (b := false) (t := 146) (c := true) rfl rfl rfl rfl rfl
                      try dsimp only [putL, setL, evL, getL]
                      refine HL_skip ?_ ?_
                      · exact wantF (j := 26) (b := false) (t := 146) (c := true) rfl rfl rfl rfl rfl
                      try dsimp only [putL, setL, evL, getL]
                      refine HL_skip ?_ ?_
                      · exact wantF (j := 26) (b := false) (t := 146) (c := true) rfl rfl rfl rfl rfl
                      try dsimp only [putL, setL, evL, getL]
                      refine HL_skip ?_ ?_
                      · exact wantF (j := 26) (b := false) (t := 146) (c := true) rfl rfl rfl rfl rfl
                      try dsimp only [putL, setL, evL, getL]
                      refine HL_cons rfl ?_
                      refine o_pickT rfl rfl ?_
                      try dsimp only [putL, setL, evL, getL]
                      refine HL_cons rfl ?_
                      refine o_move ?_
                      try dsimp only [putL, setL, evL, getL]
                      refine HL_skip ?_ ?_
                      · exact wantF (j := 39) (b := false) (t := 159) (c := true) rfl rfl rfl rfl rfl
                      try dsimp only [putL, setL, evL, getL]
                      refine HL_skip ?_ ?_
                      · exact wantF (j := 39) (b := false) (t := 159) (c := true) rfl rfl rfl rfl rfl
                      try dsimp only [putL, setL, evL, getL]
                      refine HL_cons rfl ?_
                      refine o_pickT rfl rfl ?_
                      try dsimp only [putL, setL, evL, getL]
                      refine HL_cons rfl ?_
                      refine o_move ?_
                      try dsimp only [putL, setL, evL, getL]
                      refine HL_skip ?_ ?_
                      · exact wantF (j := 43) (b := false) (t := 163) (c := true) rfl rfl rfl rfl rfl
                      try dsimp only [putL, setL, evL, getL]
                      refine HL_skip ?_ ?_
                      · exact wantF (j := 43) (b := false) (t := 163) (c := true) rfl rfl rfl rfl rfl
                      try dsimp only [putL, setL, evL, getL]
                      refine HL_skip ?_ ?_
                      · exact wantF (j := 43) (b := false) (t := 163) (c := true) rfl rfl rfl rfl rfl
                      try dsimp only [putL, setL, evL, getL]
                      refine HL_skip ?_ ?_
                      · exact wantF (j := 43) (b := false) (t := 163) (c := true) rfl rfl rfl rfl rfl
                      try dsimp only [putL, setL, evL, getL]
                      refine HL_skip ?_ ?_
                      · exact wantF (j := 43) (b := false) (t := 163) (c := true) rfl rfl rfl rfl rfl
                      try dsimp only [putL, setL, evL, getL]
                      refine HL_cons rfl ?_
                      refine o_pickT rfl rfl ?_
                      try dsimp only [putL, setL, evL, getL]
                      refine HL_nil ?_
                      exact hK113 _ _ ⟨true, H, rfl, hH.sel [] (by decide)⟩
                    · replace H := iteF hb129 H
                      refine HL_want ?_ ?_
                      · exact wantT (j := 16) (b := false) (t := 136) (c := !u106.2) rfl rfl rfl rfl hb129
                      refine o_move ?_
                      try dsimp only [putL, setL, evL, getL]
                      refine HL_want ?_ ?_
                      · exact wantT (j := 16) (b := false) (t := 136) (c := !u106.2) rfl rfl rfl rfl hb129
                      refine o_move ?_
                      try dsimp only [putL, setL, evL, getL]
                      replace H := headE H
                      obtain ⟨u130, hu130, H⟩ := H
                      refine HL_want ?_ ?_
                      · exact wantT (j := 16) (b := false) (t := 136) (c := !u106.2) rfl rfl rfl rfl hb129
                      refine o_call (args := #[.slice A107 u106.1.length c107, .slice A9 u8.1.length c9]) Try.func18 rfl rfl rfl (laws_sameInts.ok s126 s126 no A107 c107 u106.1 A9 c9 u8.1 (hH.rd 6 rfl) (hH.rd 0 rfl) (Hp.own (Bs.refl s126)) _ hu130) ?_
                      rintro _ s130 ⟨rfl, hD⟩
                      replace hH := hH.back0T hD
                      clear hD
                      dsimp only [addC, setC, rmC, selC, getC] at hH
                      try dsimp only [putL, setL, evL, getL]
                      refine HL_want ?_ ?_
                      · exact wantT (j := 16) (b := false) (t := 136) (c := !u106.2) rfl rfl rfl rfl hb129
                      refine o_not rfl ?_
                      try dsimp only [putL, setL, evL, getL]
                      refine HL_cons rfl ?_
                      refine o_pickF rfl hb129 ?_
                      try dsimp only [putL, setL, evL, getL]
                      refine HL_cons rfl ?_
                      refine o_move ?_
                      try dsimp only [putL, setL, evL, getL]
                      rcases Bool.eq_false_or_eq_true (!u130) with hb131 | hb131
                      · replace H := iteT hb131 H
                        refine HL_skip ?_ ?_
                        · exact wantF (j := 22) (b := false) (t := 142) (c := !u130) rfl rfl rfl rfl hb131
                        try dsimp only [putL, setL, evL, getL]
                        refine HL_skip ?_ ?_
                        · exact wantF (j := 22) (b := false) (t := 142) (c := !u130) rfl rfl rfl rfl hb131
                        try dsimp only [putL, setL, evL, getL]
                        refine HL_cons rfl ?_
                        refine o_pickT rfl hb131 ?_
                        try dsimp only [putL, setL, evL, getL]
                        refine HL_cons rfl ?_
                        refine o_move ?_
                        try dsimp only [putL, setL, evL, getL]
                        refine HL_skip ?_ ?_
                        · exact wantF (j := 26) (b := false) (t := 146) (c := true) rfl rfl rfl rfl rfl
                        try dsimp only [putL, setL, evL, getL]
                        refine HL_skip ?_ ?_
                        · exact wantF (j := 26) (b := false) (t := 146) (c := true) rfl rfl rfl rfl rfl
                        try dsimp only [putL, setL, evL, getL]
                        refine HL_skip ?_ ?_
                        · exact wantF (j := 26) (b := false) (t := 146) (c := true) rfl rfl rfl rfl rfl
                        try dsimp only [putL, setL, evL, getL]
                        refine HL_skip ?_ ?_
                        · exact wantF (j := 26) (b := false) (t := 146) (c := true) rfl rfl rfl rfl rfl
                        try dsimp only [putL, setL, evL, getL]
                        refine HL_skip ?_ ?_
                        · exact wantF (j := 26) (b := false) (t := 146) (c := true) rfl rfl rfl rfl rfl
                        try dsimp only [putL, setL, evL, getL]
                        refine HL_skip ?_ ?_
                        · exact wantF (j := 26) (b := false) (t := 146) (c := true) rfl rfl rfl rfl rfl
                        try dsimp only [putL, setL, evL, getL]
                        refine HL_skip ?_ ?_
                        · exact wantF (j := 26) (b := false) (t := 146) (c := true) rfl rfl rfl rfl rfl
                        try dsimp only [putL, setL, evL, getL]
                        refine HL_skip ?_ ?_
                        · exact wantF (j := 26) (b := false) (t := 146) (c := true) rfl rfl rfl rfl rfl
                        try dsimp only [putL, setL, evL, getL]
                        refine HL_skip ?_ ?_
                        · exact wantF (j := 26) (b := false) (t := 146) (c := true) rfl rfl rfl rfl rfl
                        try dsimp only [putL, setL, evL, getL]
                        refine HL_skip ?_ ?_
                        · exact wantF (j := 26) (b := false) (t := 146) (c := true) rfl rfl rfl rfl rfl
                        try dsimp only [putL, setL, evL, getL]
                        refine HL_skip ?_ ?_
                        · exact wantF (j := 26) (b := false) (t := 146) (c := true) rfl rfl rfl rfl rfl
                        try dsimp only [putL, setL, evL, getL]
                        refine HL_cons rfl ?_
                        refine o_pickT rfl rfl ?_
                        try dsimp only [putL, setL, evL, getL]
                        refine HL_cons rfl ?_
                        refine o_move ?_
                        try dsimp only [putL, setL, evL, getL]
                        refine HL_skip ?_ ?_
                        · exact wantF (j := 39) (b := false) (t := 159) (c := true) rfl rfl rfl rfl rfl
                        try dsimp only [putL, setL, evL, getL]
                        refine HL_skip ?_ ?_
                        · exact wantF (j := 39) (b := false) (t := 159) (c := true) rfl rfl rfl rfl rfl
                        try dsimp only [putL, setL, evL, getL]
                        refine HL_cons rfl ?_
                        refine o_pickT rfl rfl ?_
                        try dsimp only [putL, setL, evL, getL]
                        refine HL_cons rfl ?_
                        refine o_move ?_
                        try dsimp only [putL, setL, evL, getL]
                        refine HL_skip ?_ ?_
                        · exact wantF (j := 43) (b := false) (t := 163) (c := true) rfl rfl rfl rfl rfl
                        try dsimp only [putL, setL, evL, getL]
                        refine HL_skip ?_ ?_
                        · exact wantF (j := 43) (b := false) (t := 163) (c := true) rfl rfl rfl rfl rfl
                        try dsimp only [putL, setL, evL, getL]
                        refine HL_skip ?_ ?_
                        · exact wantF (j := 43) (b := false) (t := 163) (c := true) rfl rfl rfl rfl rfl
                        try dsimp only [putL, setL, evL, getL]
                        refine HL_skip ?_ ?_
                        · exact wantF (j := 43) (b := false) (t := 163) (c := true) rfl rfl rfl rfl rfl
                        try dsimp only [putL, setL, evL, getL]
                        refine HL_skip ?_ ?_
                        · exact wantF (j := 43) (b := false) (t := 163) (c := true) rfl rfl rfl rfl rfl
                        try dsimp only [putL, setL, evL, getL]
                        refine HL_cons rfl ?_
                        refine o_pickT rfl rfl ?_
                        try dsimp only [putL, setL, evL, getL]
                        refine HL_nil ?_
                        exact hK113 _ _ ⟨true, H, rfl, hH.sel [] (by decide)⟩
                      · replace H := iteF hb131 H
                        refine HL_want ?_ ?_
                        · exact wantT (j := 22) (b := false) (t := 142) (c := !u130) rfl rfl rfl rfl hb131
                        refine o_move ?_
                        try dsimp only [putL, setL, evL, getL]
                        refine HL_want ?_ ?_
                        · exact wantT (j := 22) (b := false) (t := 142) (c := !u130) rfl rfl rfl rfl hb131
                        refine o_not rfl ?_
                        try dsimp only [putL, setL, evL, getL]
                        refine HL_cons rfl ?_
                        refine o_pickF rfl hb131 ?_
                        try dsimp only [putL, setL, evL, getL]
                        refine HL_cons rfl ?_
                        refine o_move ?_
                        try dsimp only [putL, setL, evL, getL]
                        rcases Bool.eq_false_or_eq_true (!u109.2) with hb132 | hb132
                        · replace H := iteT hb132 H
                          refine HL_skip ?_ ?_
                          · exact wantF (j := 26) (b := false) (t := 146) (c := !u109.2) rfl rfl rfl rfl hb132
                          try dsimp only [putL, setL, evL, getL]
                          refine HL_skip ?_ ?_
                          · exact wantF (j := 26) (b := false) (t := 146) (c := !u109.2) rfl rfl rfl rfl hb132
                          try dsimp only [putL, setL, evL, getL]
                          refine HL_skip ?_ ?_
                          · exact wantF (j := 26) (b := false) (t := 146) (c := !u109.2) rfl rfl rfl rfl hb132
                          try dsimp only [putL, setL, evL, getL]
                          refine HL_skip ?_ ?_
                          · exact wantF (j := 26) (b := false) (t := 146) (c := !u109.2) rfl rfl rfl rfl hb132
                          try dsimp only [putL, setL, evL, getL]
                          refine HL_skip ?_ ?_
                          · exact wantF (j := 26) (b := false) (t := 146) (c := !u109.2) rfl rfl rfl rfl hb132
                          try dsimp only [putL, setL, evL, getL]
                          refine HL_skip ?_ ?_
                          · exact wantF (j := 26) (b := false) (t := 146) (c := !u109.2) rfl rfl rfl rfl hb132
                          try dsimp only [putL, setL, evL, getL]
                          refine HL_skip ?_ ?_
                          · exact wantF (j := 26) (b := false) (t := 146) (c := !u109.2) rfl rfl rfl rfl hb132
                          try dsimp only [putL, setL, evL, getL]
                          refine HL_skip ?_ ?_
                          · exact wantF (j := 26) (b := false) (t := 146) (c := !u109.2) rfl rfl rfl rfl hb132
                          try dsimp only [putL, setL, evL, getL]
                          refine HL_skip ?_ ?_
                          · exact wantF (j := 26) (b := false) (t := 146) (c := !u109.2) rfl rfl rfl rfl hb132
                          try dsimp only [putL, setL, evL, getL]
                          refine HL_skip ?_ ?_
                          · exact wantF (j := 26) (b := false) (t := 146) (c := !u109.2) rfl rfl rfl rfl hb132
                          try dsimp only [putL, setL, evL, getL]
                          refine HL_skip ?_ ?_
                          · exact wantF (j := 26) (b := false) (t := 146) (c := !u109.2) rfl rfl rfl rfl hb132
                          try dsimp only [putL, setL, evL, getL]
                          refine HL_cons rfl ?_
                          refine o_pickT rfl hb132 ?_
                          try dsimp only [putL, setL, evL, getL]
                          refine HL_cons rfl ?_
                          refine o_move ?_
                          try dsimp only [putL, setL, evL, getL]
                          refine HL_skip ?_ ?_
                          · exact wantF (j := 39) (b := false) (t := 159) (c := true) rfl rfl rfl rfl rfl
                          try dsimp only [putL, setL, evL, getL]
                          refine HL_skip ?_ ?_
                          · exact wantF (j := 39) (b := false) (t := 159) (c := true) rfl rfl rfl rfl rfl
                          try dsimp only [putL, setL, evL, getL]
                          refine HL_cons rfl ?_
                          refine o_pickT rfl rfl ?_
                          try dsimp only [putL, setL, evL, getL]
                          refine HL_cons rfl ?_
                          refine o_move ?_
                          try dsimp only [putL, setL, evL, getL]
                          refine HL_skip ?_ ?_
                          · exact wantF (j := 43) (b := false) (t := 163) (c := true) rfl rfl rfl rfl rfl
                          try dsimp only [putL, setL, evL, getL]
                          refine HL_skip ?_ ?_
                          · exact wantF (j := 43) (b := false) (t := 163) (c := true) rfl rfl rfl rfl rfl
                          try dsimp only [putL, setL, evL, getL]
                          refine HL_skip ?_ ?_
                          · exact wantF (j := 43) (b := false) (t := 163) (c := true) rfl rfl rfl rfl rfl
                          try dsimp only [putL, setL, evL, getL]
                          refine HL_skip ?_ ?_
                          · exact wantF (j := 43) (b := false) (t := 163) (c := true) rfl rfl rfl rfl rfl
                          try dsimp only [putL, setL, evL, getL]
                          refine HL_skip ?_ ?_
                          · exact wantF (j := 43) (b := false) (t := 163) (c := true) rfl rfl rfl rfl rfl
                          try dsimp only [putL, setL, evL, getL]
                          refine HL_cons rfl ?_
                          refine o_pickT rfl rfl ?_
                          try dsimp only [putL, setL, evL, getL]
                          refine HL_nil ?_
                          exact hK113 _ _ ⟨true, H, rfl, hH.sel [] (by decide)⟩
                        · replace H := iteF hb132 H
                          refine HL_want ?_ ?_
                          · exact wantT (j := 26) (b := false) (t := 146) (c := !u109.2) rfl rfl rfl rfl hb132
                          refine o_move ?_
                          try dsimp only [putL, setL, evL, getL]
                          refine HL_want ?_ ?_
                          · exact wantT (j := 26) (b := false) (t := 146) (c := !u109.2) rfl rfl rfl rfl hb132
                          refine o_move ?_
                          try dsimp only [putL, setL, evL, getL]
                          refine HL_want ?_ ?_
                          · exact wantT (j := 26) (b := false) (t := 146) (c := !u109.2) rfl rfl rfl rfl hb132
                          refine o_len rfl Try.underlying24 ?_
                          try dsimp only [putL, setL, evL, getL]
                          refine HL_want ?_ ?_
                          · exact wantT (j := 26) (b := false) (t := 146) (c := !u109.2) rfl rfl rfl rfl hb132
                          refine o_move ?_
                          try dsimp only [putL, setL, evL, getL]
                          refine HL_want ?_ ?_
                          · exact wantT (j := 26) (b := false) (t := 146) (c := !u109.2) rfl rfl rfl rfl hb132
                          refine o_len rfl Try.underlying24 ?_
                          try dsimp only [putL, setL, evL, getL]
                          refine HL_want ?_ ?_
                          · exact wantT (j := 26) (b := false) (t := 146) (c := !u109.2) rfl rfl rfl rfl hb132
                          refine o_bin rfl rfl rfl ?_
                          try dsimp only [putL, setL, evL, getL]
                          refine HL_want ?_ ?_
                          · exact wantT (j := 26) (b := false) (t := 146) (c := !u109.2) rfl rfl rfl rfl hb132
                          refine o_move ?_
                          try dsimp only [putL, setL, evL, getL]
                          refine HL_want ?_ ?_
                          · exact wantT (j := 26) (b := false) (t := 146) (c := !u109.2) rfl rfl rfl rfl hb132
                          refine o_len rfl Try.underlying24 ?_
                          try dsimp only [putL, setL, evL, getL]
                          refine HL_want ?_ ?_
                          · exact wantT (j := 26) (b := false) (t := 146) (c := !u109.2) rfl rfl rfl rfl hb132
                          refine o_bin rfl rfl rfl ?_
                          try dsimp only [putL, setL, evL, getL]
                          refine HL_want ?_ ?_
                          · exact wantT (j := 26) (b := false) (t := 146) (c := !u109.2) rfl rfl rfl rfl hb132
                          refine o_bin rfl rfl rfl ?_
                          try dsimp only [putL, setL, evL, getL]
                          refine HL_want ?_ ?_
                          · exact wantT (j := 26) (b := false) (t := 146) (c := !u109.2) rfl rfl rfl rfl hb132
                          refine o_bin rfl rfl rfl ?_
                          try dsimp only [putL, setL, evL, getL]
                          refine HL_cons rfl ?_
                          refine o_pickF rfl hb132 ?_
                          try dsimp only [putL, setL, evL, getL]
                          refine HL_cons rfl ?_
                          refine o_move ?_
                          try dsimp only [putL, setL, evL, getL]
                          rcases Bool.eq_false_or_eq_true (decide (u109.1 > (IntKind.i64.wrap ((IntKind.i64.wrap ((u8.1.length : Int) + (u8.2.length : Int))) - (IntKind.i64.wrap (2 * (u18.1.length : Int))))))) with hb133 | hb133
                          · replace H := iteT hb133 H
                            refine HL_skip ?_ ?_
                            · exact wantF (j := 39) (b := false) (t := 159) (c := decide (u109.1 > (IntKind.i64.wrap ((IntKind.i64.wrap ((u8.1.length : Int) + (u8.2.length : Int))) - (IntKind.i64.wrap (2 * (u18.1.length : Int))))))) rfl rfl rfl rfl hb133
                            try dsimp only [putL, setL, evL, getL]
                            refine HL_skip ?_ ?_
                            · exact wantF (j := 39) (b := false) (t := 159) (c := decide (u109.1 > (IntKind.i64.wrap ((IntKind.i64.wrap ((u8.1.length : Int) + (u8.2.length : Int))) - (IntKind.i64.wrap (2 * (u18.1.length : Int))))))) rfl rfl rfl rfl hb133
                            try dsimp only [putL, setL, evL, getL]
                            refine HL_cons rfl ?_
                            refine o_pickT rfl hb133 ?_
                            try dsimp only [putL, setL, evL, getL]
                            refine HL_cons rfl ?_
                            refine o_move ?_
                            try dsimp only [putL, setL, evL, getL]
                            refine HL_skip ?_ ?_
                            · exact wantF (j := 43) (b := false) (t := 163) (c := true) rfl rfl rfl rfl rfl
                            try dsimp only [putL, setL, evL, getL]
                            refine HL_skip ?_ ?_
                            · exact wantF (j := 43) (b := false) (t := 163) (c := true) rfl rfl rfl rfl rfl
                            try dsimp only [putL, setL, evL, getL]
                            refine HL_skip ?_ ?_
                            · exact wantF (j := 43) (b := false) (t := 163) (c := true) rfl rfl rfl rfl rfl
                            try dsimp only [putL, setL, evL, getL]
                            refine HL_skip ?_ ?_
                            · exact wantF (j := 43) (b := false) (t := 163) (c := true) rfl rfl rfl rfl rfl
                            try dsimp only [putL, setL, evL, getL]
                            refine HL_skip ?_ ?_
                            · exact wantF (j := 43) (b := false) (t := 163) (c := true) rfl rfl rfl rfl rfl
                            try dsimp only [putL, setL, evL, getL]
                            refine HL_cons rfl ?_
                            refine o_pickT rfl rfl ?_
                            try dsimp only [putL, setL, evL, getL]
                            refine HL_nil ?_
                            exact hK113 _ _ ⟨true, H, rfl, hH.sel [] (by decide)⟩
                          · replace H := iteF hb133 H
                            refine HL_want ?_ ?_
                            · exact wantT (j := 39) (b := false) (t := 159) (c := decide (u109.1 > (IntKind.i64.wrap ((IntKind.i64.wrap ((u8.1.length : Int) + (u8.2.length : Int))) - (IntKind.i64.wrap (2 * (u18.1.length : Int))))))) rfl rfl rfl rfl hb133
                            refine o_move ?_
                            try dsimp only [putL, setL, evL, getL]
                            refine HL_want ?_ ?_
                            · exact wantT (j := 39) (b := false) (t := 159) (c := decide (u109.1 > (IntKind.i64.wrap ((IntKind.i64.wrap ((u8.1.length : Int) + (u8.2.length : Int))) - (IntKind.i64.wrap (2 * (u18.1.length : Int))))))) rfl rfl rfl rfl hb133
                            refine o_not rfl ?_
                            try dsimp only [putL, setL, evL, getL]
                            refine HL_cons rfl ?_
                            refine o_pickF rfl hb133 ?_
                            try dsimp only [putL, setL, evL, getL]
                            refine HL_cons rfl ?_
                            refine o_move ?_
                            try dsimp only [putL, setL, evL, getL]
                            rcases Bool.eq_false_or_eq_true (!u111.2) with hb134 | hb134
                            · replace H := iteT hb134 H
                              refine HL_skip ?_ ?_
                              · exact wantF (j := 43) (b := false) (t := 163) (c := !u111.2) rfl rfl rfl rfl hb134
                              try dsimp only [putL, setL, evL, getL]
                              refine HL_skip ?_ ?_
                              · exact wantF (j := 43) (b := false) (t := 163) (c := !u111.2) rfl rfl rfl rfl hb134
                              try dsimp only [putL, setL, evL, getL]
                              refine HL_skip ?_ ?_
                              · exact wantF (j := 43) (b := false) (t := 163) (c := !u111.2) rfl rfl rfl rfl hb134
                              try dsimp only [putL, setL, evL, getL]
                              refine HL_skip ?_ ?_
                              · exact wantF (j := 43) (b := false) (t := 163) (c := !u111.2) rfl rfl rfl rfl hb134
                              try dsimp only [putL, setL, evL, getL]
                              refine HL_skip ?_ ?_
                              · exact wantF (j := 43) (b := false) (t := 163) (c := !u111.2) rfl rfl rfl rfl hb134
                              try dsimp only [putL, setL, evL, getL]
                              refine HL_cons rfl ?_
                              refine o_pickT rfl hb134 ?_
                              try dsimp only [putL, setL, evL, getL]
                              refine HL_nil ?_
                              exact hK113 _ _ ⟨true, H, rfl, hH.sel [] (by decide)⟩
                            · replace H := iteF hb134 H
                              refine HL_want ?_ ?_
                              · exact wantT (j := 43) (b := false) (t := 163) (c := !u111.2) rfl rfl rfl rfl hb134
                              refine o_move ?_
                              try dsimp only [putL, setL, evL, getL]
                              refine HL_want ?_ ?_
                              · exact wantT (j := 43) (b := false) (t := 163) (c := !u111.2) rfl rfl rfl rfl hb134
                              refine o_len rfl Try.underlying24 ?_
                              try dsimp only [putL, setL, evL, getL]
                              refine HL_want ?_ ?_
                              · exact wantT (j := 43) (b := false) (t := 163) (c := !u111.2) rfl rfl rfl rfl hb134
                              refine o_move ?_
                              try dsimp only [putL, setL, evL, getL]
                              refine HL_want ?_ ?_
                              · exact wantT (j := 43) (b := false) (t := 163) (c := !u111.2) rfl rfl rfl rfl hb134
                              refine o_len rfl Try.underlying24 ?_
                              try dsimp only [putL, setL, evL, getL]
                              refine HL_want ?_ ?_
                              · exact wantT (j := 43) (b := false) (t := 163) (c := !u111.2) rfl rfl rfl rfl hb134
                              refine o_bin rfl rfl rfl ?_
                              try dsimp only [putL, setL, evL, getL]
                              refine HL_cons rfl ?_
                              refine o_pickF rfl hb134 ?_
                              try dsimp only [putL, setL, evL, getL]
                              refine HL_nil ?_
                              exact hK113 _ _ ⟨(u111.1.length : Int) != (u18.1.length : Int), H, rfl, hH.sel [] (by decide)⟩
            · rintro l' s135 ⟨x124, H, hl, hH⟩
              generalize getL l' 120 = j120, getL l' 121 = j121, getL l' 122 = j122, getL l' 123 = j123, getL l' 124 = j124, getL l' 125 = j125, getL l' 126 = j126, getL l' 127 = j127, getL l' 128 = j128, getL l' 129 = j129, getL l' 130 = j130, getL l' 131 = j131, getL l' 132 = j132, getL l' 133 = j133, getL l' 134 = j134, getL l' 135 = j135, getL l' 136 = j136, getL l' 137 = j137, getL l' 138 = j138, getL l' 139 = j139, getL l' 140 = j140, getL l' 141 = j141, getL l' 142 = j142, getL l' 143 = j143, getL l' 144 = j144, getL l' 145 = j145, getL l' 146 = j146, getL l' 147 = j147, getL l' 148 = j148, getL l' 149 = j149, getL l' 150 = j150, getL l' 151 = j151, getL l' 152 = j152, getL l' 153 = j153, getL l' 154 = j154, getL l' 155 = j155, getL l' 156 = j156, getL l' 157 = j157, getL l' 158 = j158, getL l' 159 = j159, getL l' 160 = j160, getL l' 161 = j161, getL l' 162 = j162, getL l' 163 = j163, getL l' 164 = j164, getL l' 165 = j165, getL l' 166 = j166, getL l' 167 = j167, getL l' 168 = j168 at hl
              subst hl
              replace H := hG113 _ H
              try dsimp only at H
              rcases Bool.eq_false_or_eq_true x124 with hb136 | hb136
              · replace H := iteT hb136 H
                refine HT_true (congrArg Value.bool hb136) ?_
                refine HT_seq_k ?_
                intro K137 hK137
                refine HT_region ?_
                refine HL_cons rfl ?_
                refine o_assign ?_
                try dsimp only [putL, setL, evL, getL]
                refine HL_nil ?_
                refine hK137 _ _ ?_
                refine HT_ret ?_
                replace H := escH (fun z hz => hG55 _ hz) H
                exact hQr _ _ [.bool false] ⟨rfl, trivial⟩ (retH (fun r => laws_FnDiff.post sb s F0 r _ _) (show some _ = some r from H) ⟨rfl, hH⟩)
              · replace H := iteF hb136 H
                refine HT_false (congrArg Value.bool hb136) ?_
                refine HT_skip ?_
                exact hK55 _ _ ⟨H, rfl, hH⟩
          · replace H := iteF hb98 H
            refine HT_false (congrArg Value.bool hb98) ?_
            refine HT_skip ?_
            exact hK55 _ _ ⟨H, rfl, hH.sel [] (by decide)⟩
        · rintro l' s138 ⟨H, hl, hH⟩
          generalize getL l' 4 = j4, getL l' 15 = j15, getL l' 16 = j16, getL l' 17 = j17, getL l' 18 = j18, getL l' 19 = j19, getL l' 20 = j20, getL l' 21 = j21, getL l' 22 = j22, getL l' 23 = j23, getL l' 24 = j24, getL l' 90 = j90, getL l' 91 = j91, getL l' 92 = j92, getL l' 93 = j93, getL l' 94 = j94, getL l' 95 = j95, getL l' 96 = j96, getL l' 97 = j97, getL l' 98 = j98, getL l' 99 = j99, getL l' 100 = j100, getL l' 101 = j101, getL l' 102 = j102, getL l' 103 = j103, getL l' 104 = j104, getL l' 105 = j105, getL l' 106 = j106, getL l' 107 = j107, getL l' 108 = j108, getL l' 109 = j109, getL l' 110 = j110, getL l' 111 = j111, getL l' 112 = j112, getL l' 113 = j113, getL l' 114 = j114, getL l' 115 = j115, getL l' 116 = j116, getL l' 117 = j117, getL l' 118 = j118, getL l' 119 = j119, getL l' 120 = j120, getL l' 121 = j121, getL l' 122 = j122, getL l' 123 = j123, getL l' 124 = j124, getL l' 125 = j125, getL l' 126 = j126, getL l' 127 = j127, getL l' 128 = j128, getL l' 129 = j129, getL l' 130 = j130, getL l' 131 = j131, getL l' 132 = j132, getL l' 133 = j133, getL l' 134 = j134, getL l' 135 = j135, getL l' 136 = j136, getL l' 137 = j137, getL l' 138 = j138, getL l' 139 = j139, getL l' 140 = j140, getL l' 141 = j141, getL l' 142 = j142, getL l' 143 = j143, getL l' 144 = j144, getL l' 145 = j145, getL l' 146 = j146, getL l' 147 = j147, getL l' 148 = j148, getL l' 149 = j149, getL l' 150 = j150, getL l' 151 = j151, getL l' 152 = j152, getL l' 153 = j153, getL l' 154 = j154, getL l' 155 = j155, getL l' 156 = j156, getL l' 157 = j157, getL l' 158 = j158, getL l' 159 = j159, getL l' 160 = j160, getL l' 161 = j161, getL l' 162 = j162, getL l' 163 = j163, getL l' 164 = j164, getL l' 165 = j165, getL l' 166 = j166, getL l' 167 = j167, getL l' 168 = j168, getL l' 169 = j169 at hl
          subst hl
          replace H := hG55 _ H
          try dsimp only at H
          refine HT_seq_k ?_
          intro K139 hK139
          refine HT_region ?_
          refine HL_cons rfl ?_
          refine o_move ?_
          try dsimp only [putL, setL, evL, getL]
          replace H := headE H
          obtain ⟨u140, hu140, H⟩ := H
          refine HL_cons rfl ?_
          refine o_call (args := #[.slice A1p p1.length c1p]) Try.func74 rfl rfl rfl (spec_DrawApplyDiff.ok sb s138 no A1p c1p p1 HRp1 (Hp.own hH.bs) _ hu140) ?_
          rintro _ s140 ⟨A141, c141, A142, c142, rfl, hD⟩
          replace hH := hH.back0 hD (Up.refl _ _ _)
          clear hD
          dsimp only [addC, setC, rmC, selC, getC] at hH
          try dsimp only [putL, setL, evL, getL]
          refine HL_cons rfl ?_
          refine o_move ?_
          try dsimp only [putL, setL, evL, getL]
          refine HL_cons rfl ?_
          refine o_extract rfl rfl ?_
          try dsimp only [putL, setL, evL, getL]
          refine HL_cons rfl ?_
          refine o_extract rfl rfl ?_
          try dsimp only [putL, setL, evL, getL]
          refine HL_cons rfl ?_
          refine o_assign ?_
          try dsimp only [putL, setL, evL, getL]
          refine HL_cons rfl ?_
          refine o_assign ?_
          try dsimp only [putL, setL, evL, getL]
          refine HL_nil ?_
          refine hK139 _ _ ?_
          refine HT_seq_k ?_
          intro K143 hK143
          refine HT_region ?_
          refine HL_cons rfl ?_
          refine o_move ?_
          try dsimp only [putL, setL, evL, getL]
          refine HL_cons rfl ?_
          refine o_move ?_
          try dsimp only [putL, setL, evL, getL]
          replace H := headE H
          obtain ⟨u144, hu144, H⟩ := H
          refine HL_cons rfl ?_
          refine o_call (args := #[.slice A141 u140.1.length c141, .slice A142 u140.2.length c142]) Try.func72 rfl rfl rfl (impl_ApplyDiff.ok s140 s140 no A141 c141 u140.1 A142 c142 u140.2 (hH.rd 0 rfl) (hH.rd 1 rfl) (Hp.own (Bs.refl s140)) _ hu144) ?_
          rintro _ s144 ⟨A145, c145, rfl, hD⟩
          replace hH := hH.back0T hD
          clear hD
          dsimp only [addC, setC, rmC, selC, getC] at hH
          try dsimp only [putL, setL, evL, getL]
          refine HL_cons rfl ?_
          refine o_move ?_
          try dsimp only [putL, setL, evL, getL]
          refine HL_cons rfl ?_
          refine o_extract rfl rfl ?_
          try dsimp only [putL, setL, evL, getL]
          refine HL_cons rfl ?_
          refine o_extract rfl rfl ?_
          try dsimp only [putL, setL, evL, getL]
          refine HL_cons rfl ?_
          refine o_assign ?_
          try dsimp only [putL, setL, evL, getL]
          refine HL_cons rfl ?_
          refine o_assign ?_
          try dsimp only [putL, setL, evL, getL]
          refine HL_nil ?_
          refine hK143 _ _ ?_
          refine HT_seq_k ?_
          intro K146 hK146
          refine HT_region ?_
          refine HL_cons rfl ?_
          refine o_move ?_
          try dsimp only [putL, setL, evL, getL]
          refine HL_cons rfl ?_
          refine o_move ?_
          try dsimp only [putL, setL, evL, getL]
          replace H := headE H
          obtain ⟨u147, hu147, H⟩ := H
          refine HL_cons rfl ?_
          refine o_call (args := #[.slice A141 u140.1.length c141, .slice A142 u140.2.length c142]) Try.func75 rfl rfl rfl (spec_ApplyDiff.ok s144 s144 no A141 c141 u140.1 A142 c142 u140.2 (hH.rd 0 rfl) (hH.rd 1 rfl) (Hp.own (Bs.refl s144)) _ hu147) ?_
          rintro _ s147 ⟨A148, c148, rfl, hD⟩
          replace hH := hH.back0T hD
          clear hD
          dsimp only [addC, setC, rmC, selC, getC] at hH
          try dsimp only [putL, setL, evL, getL]
          refine HL_cons rfl ?_
          refine o_move ?_
          try dsimp only [putL, setL, evL, getL]
          refine HL_cons rfl ?_
          refine o_extract rfl rfl ?_
          try dsimp only [putL, setL, evL, getL]
          refine HL_cons rfl ?_
          refine o_extract rfl rfl ?_
          try dsimp only [putL, setL, evL, getL]
          refine HL_cons rfl ?_
          refine o_assign ?_
          try dsimp only [putL, setL, evL, getL]
          refine HL_cons rfl ?_
          refine o_assign ?_
          try dsimp only [putL, setL, evL, getL]
          refine HL_nil ?_
          refine hK146 _ _ ?_
          refine HT_seq_k ?_
          intro K149 hK149
          refine HT_region ?_
          refine HL_cons rfl ?_
          refine o_move ?_
          try dsimp only [putL, setL, evL, getL]
          replace H := headE H
          obtain ⟨u150, hu150, H⟩ := H
          refine HL_cons rfl ?_
          refine o_call (args := #[.slice A1p p1.length c1p]) Try.func76 rfl rfl rfl (spec_DrawTurnDiff.ok sb s147 no A1p c1p p1 HRp1 (Hp.own hH.bs) _ hu150) ?_
          rintro _ s150 ⟨A151, c151, rfl, hD⟩
          replace hH := hH.back0 hD (Up.refl _ _ _)
          clear hD
          dsimp only [addC, setC, rmC, selC, getC] at hH
          try dsimp only [putL, setL, evL, getL]
          refine HL_cons rfl ?_
          refine o_assign ?_
          try dsimp only [putL, setL, evL, getL]
          refine HL_nil ?_
          refine hK149 _ _ ?_
          refine HT_seq_k ?_
          intro K152 hK152
          refine HT_region ?_
          refine HL_cons rfl ?_
          refine o_move ?_
          try dsimp only [putL, setL, evL, getL]
          replace H := headE H
          obtain ⟨u153, hu153, H⟩ := H
          refine HL_cons rfl ?_
          refine o_call (args := #[.slice A151 u150.length c151]) Try.func73 rfl rfl rfl (impl_TurnDiff.ok s150 s150 no A151 c151 u150 (hH.rd 4 rfl) (Hp.own (Bs.refl s150)) _ hu153) ?_
          rintro _ s153 ⟨A154, c154, rfl, hD⟩
          replace hH := hH.back0T hD
          clear hD
          dsimp only [addC, setC, rmC, selC, getC] at hH
          try dsimp only [putL, setL, evL, getL]
          refine HL_cons rfl ?_
          refine o_move ?_
          try dsimp only [putL, setL, evL, getL]
          refine HL_cons rfl ?_
          refine o_extract rfl rfl ?_
          try dsimp only [putL, setL, evL, getL]
          refine HL_cons rfl ?_
          refine o_extract rfl rfl ?_
          try dsimp only [putL, setL, evL, getL]
          refine HL_cons rfl ?_
          refine o_assign ?_
          try dsimp only [putL, setL, evL, getL]
          refine HL_cons rfl ?_
          refine o_assign ?_
          try dsimp only [putL, setL, evL, getL]
          refine HL_nil ?_
          refine hK152 _ _ ?_
          refine HT_seq_k ?_
          intro K155 hK155
          refine HT_region ?_
          refine HL_cons rfl ?_
          refine o_move ?_
          try dsimp only [putL, setL, evL, getL]
          replace H := headE H
          obtain ⟨u156, hu156, H⟩ := H
          refine HL_cons rfl ?_
          refine o_call (args := #[.slice A151 u150.length c151]) Try.func77 rfl rfl rfl (spec_TurnDiff.ok s153 s153 no A151 c151 u150 (hH.rd 4 rfl) (Hp.own (Bs.refl s153)) _ hu156) ?_
          rintro _ s156 ⟨A157, c157, rfl, hD⟩
          replace hH := hH.back0T hD
          clear hD
          dsimp only [addC, setC, rmC, selC, getC] at hH
          try dsimp only [putL, setL, evL, getL]
          refine HL_cons rfl ?_
          refine o_move ?_
          try dsimp only [putL, setL, evL, getL]
          refine HL_cons rfl ?_
          refine o_extract rfl rfl ?_
          try dsimp only [putL, setL, evL, getL]
          refine HL_cons rfl ?_
          refine o_extract rfl rfl ?_
          try dsimp only [putL, setL, evL, getL]
          refine HL_cons rfl ?_
          refine o_assign ?_
          try dsimp only [putL, setL, evL, getL]
          refine HL_cons rfl ?_
          refine o_assign ?_
          try dsimp only [putL, setL, evL, getL]
          refine HL_nil ?_
          refine hK155 _ _ ?_
          refine HT_seq_k ?_
          intro K174 hK174
          refine joinH H fun G175 hG175 H => ?_
          refine HT_joinK (fun l' s' => ∃ (x181 : Bool), G175 x181 = some r ∧ l' = [.slice A0p p0.length c0p, .slice A1p p1.length c1p, undef, undef, j4, .slice A9 u8.1.length c9, .slice A10 u8.2.length c10, .slice A13 u12.1.length c13, .bool u12.2, .slice A16 u15.1.length c16, .bool u15.2, .slice A19 u18.1.length c19, .bool u18.2, .slice A22 u21.1.length c22, .bool u21.2, j15, j16, j17, j18, j19, j20, j21, j22, j23, j24, .slice A141 u140.1.length c141, .slice A142 u140.2.length c142, .slice A145 u144.1.length c145, .bool u144.2, .slice A148 u147.1.length c148, .bool u147.2, .slice A151 u150.length c151, .slice A154 u153.1.length c154, .bool u153.2, .slice A157 u156.1.length c157, .bool u156.2, undef, undef, .slice A0p p0.length c0p, .slice A1p p1.length c1p, .bool u4, .tuple #[.slice A9 u8.1.length c9, .slice A10 u8.2.length c10], .slice A0p p0.length c0p, .tuple #[.slice A9 u8.1.length c9, .slice A10 u8.2.length c10], .slice A9 u8.1.length c9, .slice A10 u8.2.length c10, .tuple #[.slice A13 u12.1.length c13, .bool u12.2], .slice A9 u8.1.length c9, .slice A10 u8.2.length c10, .tuple #[.slice A13 u12.1.length c13, .bool u12.2], .slice A13 u12.1.length c13, .bool u12.2, .tuple #[.slice A16 u15.1.length c16, .bool u15.2], .slice A9 u8.1.length c9, .slice A10 u8.2.length c10, .tuple #[.slice A16 u15.1.length c16, .bool u15.2], .slice A16 u15.1.length c16, .bool u15.2, .tuple #[.slice A19 u18.1.length c19, .bool u18.2], .slice A9 u8.1.length c9, .slice A10 u8.2.length c10, .tuple #[.slice A19 u18.1.length c19, .bool u18.2], .slice A19 u18.1.length c19, .bool u18.2, .tuple #[.slice A22 u21.1.length c22, .bool u21.2], .slice A9 u8.1.length c9, .slice A10 u8.2.length c10, .tuple #[.slice A22 u21.1.length c22, .bool u21.2], .slice A22 u21.1.length c22, .bool u21.2, j70, j71, j72, j73, j74, j75, j76, j77, j78, j79, j80, j81, j82, j83, j84, j85, j86, j87, j88, .bool x46, j90, j91, j92, j93, j94, j95, j96, j97, j98, j99, j100, j101, j102, j103, j104, j105, j106, j107, j108, j109, j110, j111, j112, j113, j114, j115, j116, j117, j118, j119, j120, j121, j122, j123, j124, j125, j126, j127, j128, j129, j130, j131, j132, j133, j134, j135, j136, j137, j138, j139, j140, j141, j142, j143, j144, j145, j146, j147, j148, j149, j150, j151, j152, j153, j154, j155, j156, j157, j158, j159, j160, j161, j162, j163, j164, j165, j166, j167, j168, j169, .tuple #[.slice A141 u140.1.length c141, .slice A142 u140.2.length c142], .slice A1p p1.length c1p, .tuple #[.slice A141 u140.1.length c141, .slice A142 u140.2.length c142], .slice A141 u140.1.length c141, .slice A142 u140.2.length c142, .tuple #[.slice A145 u144.1.length c145, .bool u144.2], .slice A141 u140.1.length c141, .slice A142 u140.2.length c142, .tuple #[.slice A145 u144.1.length c145, .bool u144.2], .slice A145 u144.1.length c145, .bool u144.2, .tuple #[.slice A148 u147.1.length c148, .bool u147.2], .slice A141 u140.1.length c141, .slice A142 u140.2.length c142, .tuple #[.slice A148 u147.1.length c148, .bool u147.2], .slice A148 u147.1.length c148, .bool u147.2, .slice A1p p1.length c1p, .slice A151 u150.length c151, .tuple #[.slice A154 u153.1.length c154, .bool u153.2], .slice A151 u150.length c151, .tuple #[.slice A154 u153.1.length c154, .bool u153.2], .slice A154 u153.1.length c154, .bool u153.2, .tuple #[.slice A157 u156.1.length c157, .bool u156.2], .slice A151 u150.length c151, .tuple #[.slice A157 u156.1.length c157, .bool u156.2], .slice A157 u156.1.length c157, .bool u156.2, getL l' 199, getL l' 200, getL l' 201, getL l' 202, getL l' 203, getL l' 204, getL l' 205, getL l' 206, getL l' 207, getL l' 208, getL l' 209, getL l' 210, getL l' 211, getL l' 212, getL l' 213, getL l' 214, getL l' 215, getL l' 216, getL l' 217, .bool x181, undef, undef, undef, undef, undef, undef, undef, undef, undef, undef, undef, undef] ∧ Hp sb s F0 s' [Ck.ol OS170 170 A151 c151 u150, Ck.ol OS170 170 A154 c154 u153.1]) ?_ ?_
          · intro K175 hK175
            refine HT_region ?_
            refine HL_cons rfl ?_
            refine o_move ?_
            try dsimp only [putL, setL, evL, getL]
            refine HL_cons rfl ?_
            refine o_move ?_
            try dsimp only [putL, setL, evL, getL]
            refine HL_cons rfl ?_
            refine o_neb rfl rfl Try.underlying4 ?_
            try dsimp only [putL, setL, evL, getL]
            refine HL_cons rfl ?_
            refine o_move ?_
            try dsimp only [putL, setL, evL, getL]
            rcases Bool.eq_false_or_eq_true (u144.2 != u147.2) with hb182 | hb182
            · replace H := iteT hb182 H
              refine HL_skip ?_ ?_
              · exact wantF (j := 3) (b := false) (t := 202) (c := u144.2 != u147.2) rfl rfl rfl rfl hb182
              try dsimp only [putL, setL, evL, getL]
              refine HL_skip ?_ ?_
              · exact wantF (j := 3) (b := false) (t := 202) (c := u144.2 != u147.2) rfl rfl rfl rfl hb182
              try dsimp only [putL, setL, evL, getL]
              refine HL_skip ?_ ?_
              · exact wantF (j := 3) (b := false) (t := 202) (c := u144.2 != u147.2) rfl rfl rfl rfl hb182
              try dsimp only [putL, setL, evL, getL]
              refine HL_skip ?_ ?_
              · exact wantF (j := 3) (b := false) (t := 202) (c := u144.2 != u147.2) rfl rfl rfl rfl hb182
              try dsimp only [putL, setL, evL, getL]
              refine HL_cons rfl ?_
              refine o_pickT rfl hb182 ?_
              try dsimp only [putL, setL, evL, getL]
              refine HL_cons rfl ?_
              refine o_move ?_
              try dsimp only [putL, setL, evL, getL]
              refine HL_skip ?_ ?_
              · exact wantF (j := 9) (b := false) (t := 208) (c := true) rfl rfl rfl rfl rfl
              try dsimp only [putL, setL, evL, getL]
              refine HL_skip ?_ ?_
              · exact wantF (j := 9) (b := false) (t := 208) (c := true) rfl rfl rfl rfl rfl
              try dsimp only [putL, setL, evL, getL]
              refine HL_skip ?_ ?_
              · exact wantF (j := 9) (b := false) (t := 208) (c := true) rfl rfl rfl rfl rfl
              try dsimp only [putL, setL, evL, getL]
              refine HL_cons rfl ?_
              refine o_pickT rfl rfl ?_
              try dsimp only [putL, setL, evL, getL]
              refine HL_cons rfl ?_
              refine o_move ?_
              try dsimp only [putL, setL, evL, getL]
              refine HL_skip ?_ ?_
              · exact wantF (j := 14) (b := false) (t := 213) (c := true) rfl rfl rfl rfl rfl
              try dsimp only [putL, setL, evL, getL]
              refine HL_skip ?_ ?_
              · exact wantF (j := 14) (b := false) (t := 213) (c := true) rfl rfl rfl rfl rfl
              try dsimp only [putL, setL, evL, getL]
              refine HL_skip ?_ ?_
              · exact wantF (j := 14) (b := false) (t := 213) (c := true) rfl rfl rfl rfl rfl
              try dsimp only [putL, setL, evL, getL]
              refine HL_skip ?_ ?_
              · exact wantF (j := 14) (b := false) (t := 213) (c := true) rfl rfl rfl rfl rfl
              try dsimp only [putL, setL, evL, getL]
              refine HL_cons rfl ?_
              refine o_pickT rfl rfl ?_
              try dsimp only [putL, setL, evL, getL]
              refine HL_nil ?_
              exact hK175 _ _ ⟨true, H, rfl, hH.sel [4, 5] (by decide)⟩
            · replace H := iteF hb182 H
              refine HL_want ?_ ?_
              · exact wantT (j := 3) (b := false) (t := 202) (c := u144.2 != u147.2) rfl rfl rfl rfl hb182
              refine o_move ?_
              try dsimp only [putL, setL, evL, getL]
              refine HL_want ?_ ?_
              · exact wantT (j := 3) (b := false) (t := 202) (c := u144.2 != u147.2) rfl rfl rfl rfl hb182
              refine o_move ?_
              try dsimp only [putL, setL, evL, getL]
              replace H := headE H
              obtain ⟨u183, hu183, H⟩ := H
              refine HL_want ?_ ?_
              · exact wantT (j := 3) (b := false) (t := 202) (c := u144.2 != u147.2) rfl rfl rfl rfl hb182
              refine o_call (args := #[.slice A145 u144.1.length c145, .slice A148 u147.1.length c148]) Try.func18 rfl rfl rfl (laws_sameInts.ok s156 s156 no A145 c145 u144.1 A148 c148 u147.1 (hH.rd 2 rfl) (hH.rd 3 rfl) (Hp.own (Bs.refl s156)) _ hu183) ?_
              rintro _ s183 ⟨rfl, hD⟩
              replace hH := hH.back0T hD
              clear hD
              dsimp only [addC, setC, rmC, selC, getC] at hH
              try dsimp only [putL, setL, evL, getL]
              refine HL_want ?_ ?_
              · exact wantT (j := 3) (b := false) (t := 202) (c := u144.2 != u147.2) rfl rfl rfl rfl hb182
              refine o_not rfl ?_
              try dsimp only [putL, setL, evL, getL]
              refine HL_cons rfl ?_
              refine o_pickF rfl hb182 ?_
              try dsimp only [putL, setL, evL, getL]
              refine HL_cons rfl ?_
              refine o_move ?_
              try dsimp only [putL, setL, evL, getL]
              rcases Bool.eq_false_or_eq_true (!u183) with hb184 | hb184
              · replace H := iteT hb184 H
                refine HL_skip ?_ ?_
                · exact wantF (j := 9) (b := false) (t := 208) (c := !u183) rfl rfl rfl rfl hb184
                try dsimp only [putL, setL, evL, getL]
                refine HL_skip ?_ ?_
                · exact wantF (j := 9) (b := false) (t := 208) (c := !u183) rfl rfl rfl rfl hb184
                try dsimp only [putL, setL, evL, getL]
                refine HL_skip ?_ ?_
                · exact wantF (j := 9) (b := false) (t := 208) (c := !u183) rfl rfl rfl rfl hb184
                try dsimp only [putL, setL, evL, getL]
                refine HL_cons rfl ?_
                refine o_pickT rfl hb184 ?_
                try dsimp only [putL, setL, evL, getL]
                refine HL_cons rfl ?_
                refine o_move ?_
                try dsimp only [putL, setL, evL, getL]
                refine HL_skip ?_ ?_
                · exact wantF (j := 14) (b := false) (t := 213) (c := true) rfl rfl rfl rfl rfl
                try dsimp only [putL, setL, evL, getL]
                refine HL_skip ?_ ?_
                · exact wantF (j := 14) (b := false) (t := 213) (c := true) rfl rfl rfl rfl rfl
                try dsimp only [putL, setL, evL, getL]
                refine HL_skip ?_ ?_
                · exact wantF (j := 14) (b := false) (t := 213) (c := true) rfl rfl rfl rfl rfl
                try dsimp only [putL, setL, evL, getL]
                refine HL_skip ?_ ?_
                · exact wantF (j := 14) (b := false) (t := 213) (c := true) rfl rfl rfl rfl rfl
                try dsimp only [putL, setL, evL, getL]
                refine HL_cons rfl ?_
                refine o_pickT rfl rfl ?_
                try dsimp only [putL, setL, evL, getL]
                refine HL_nil ?_
                exact hK175 _ _ ⟨true, H, rfl, hH.sel [4, 5] (by decide)⟩
              · replace H := iteF hb184 H
                refine HL_want ?_ ?_
                · exact wantT (j := 9) (b := false) (t := 208) (c := !u183) rfl rfl rfl rfl hb184
                refine o_move ?_
                try dsimp only [putL, setL, evL, getL]
                refine HL_want ?_ ?_
                · exact wantT (j := 9) (b := false) (t := 208) (c := !u183) rfl rfl rfl rfl hb184
                refine o_move ?_
                try dsimp only [putL, setL, evL, getL]
                refine HL_want ?_ ?_
                · exact wantT (j := 9) (b := false) (t := 208) (c := !u183) rfl rfl rfl rfl hb184
                refine o_neb rfl rfl Try.underlying4 ?_
                try dsimp only [putL, setL, evL, getL]
                refine HL_cons rfl ?_
                refine o_pickF rfl hb184 ?_
                try dsimp only [putL, setL, evL, getL]
                refine HL_cons rfl ?_
                refine o_move ?_
                try dsimp only [putL, setL, evL, getL]
                rcases Bool.eq_false_or_eq_true (u153.2 != u156.2) with hb185 | hb185
                · replace H := iteT hb185 H
                  refine HL_skip ?_ ?_
                  · exact wantF (j := 14) (b := false) (t := 213) (c := u153.2 != u156.2) rfl rfl rfl rfl hb185
                  try dsimp only [putL, setL, evL, getL]
                  refine HL_skip ?_ ?_
                  · exact wantF (j := 14) (b := false) (t := 213) (c := u153.2 != u156.2) rfl rfl rfl rfl hb185
                  try dsimp only [putL, setL, evL, getL]
                  refine HL_skip ?_ ?_
                  · exact wantF (j := 14) (b := false) (t := 213) (c := u153.2 != u156.2) rfl rfl rfl rfl hb185
                  try dsimp only [putL, setL, evL, getL]
                  refine HL_skip ?_ ?_
                  · exact wantF (j := 14) (b := false) (t := 213) (c := u153.2 != u156.2) rfl rfl rfl rfl hb185
                  try dsimp only [putL, setL, evL, getL]
                  refine HL_cons rfl ?_
                  refine o_pickT rfl hb185 ?_
                  try dsimp only [putL, setL, evL, getL]
                  refine HL_nil ?_
                  exact hK175 _ _ ⟨true, H, rfl, hH.sel [4, 5] (by decide)⟩
                · replace H := iteF hb185 H
                  refine HL_want ?_ ?_
                  · exact wantT (j := 14) (b := false) (t := 213) (c := u153.2 != u156.2) rfl rfl rfl rfl hb185
                  refine o_move ?_
                  try dsimp only [putL, setL, evL, getL]
                  refine HL_want ?_ ?_
                  · exact wantT (j := 14) (b := false) (t := 213) (c := u153.2 != u156.2) rfl rfl rfl rfl hb185
                  refine o_move ?_
                  try dsimp only [putL, setL, evL, getL]
                  replace H := headE H
                  obtain ⟨u186, hu186, H⟩ := H
                  refine HL_want ?_ ?_
                  · exact wantT (j := 14) (b := false) (t := 213) (c := u153.2 != u156.2) rfl rfl rfl rfl hb185
                  refine o_call (args := #[.slice A154 u153.1.length c154, .slice A157 u156.1.length c157]) Try.func71 rfl rfl rfl (laws_sameEdits.ok s183 s183 no A154 c154 u153.1 A157 c157 u156.1 (hH.rd 5 rfl) (hH.rd 6 rfl) (Hp.own (Bs.refl s183)) _ hu186) ?_
                  rintro _ s186 ⟨rfl, hD⟩
                  replace hH := hH.back0T hD
                  clear hD
                  dsimp only [addC, setC, rmC, selC, getC] at hH
                  try dsimp only [putL, setL, evL, getL]
                  refine HL_want ?_ ?_
                  · exact wantT (j := 14) (b := false) (t := 213) (c := u153.2 != u156.2) rfl rfl rfl rfl hb185
                  refine o_not rfl ?_
                  try dsimp only [putL, setL, evL, getL]
                  refine HL_cons rfl ?_
                  refine o_pickF rfl hb185 ?_
                  try dsimp only [putL, setL, evL, getL]
                  refine HL_nil ?_
                  exact hK175 _ _ ⟨!u186, H, rfl, hH.sel [4, 5] (by decide)⟩
          · rintro l' s187 ⟨x181, H, hl, hH⟩
            generalize getL l' 199 = j199, getL l' 200 = j200, getL l' 201 = j201, getL l' 202 = j202, getL l' 203 = j203, getL l' 204 = j204, getL l' 205 = j205, getL l' 206 = j206, getL l' 207 = j207, getL l' 208 = j208, getL l' 209 = j209, getL l' 210 = j210, getL l' 211 = j211, getL l' 212 = j212, getL l' 213 = j213, getL l' 214 = j214, getL l' 215 = j215, getL l' 216 = j216, getL l' 217 = j217 at hl
            subst hl
            replace H := hG175 _ H
            try dsimp only at H
            rcases Bool.eq_false_or_eq_true x181 with hb188 | hb188
            · replace H := iteT hb188 H
              refine HT_true (congrArg Value.bool hb188) ?_
              refine HT_seq_k ?_
              intro K189 hK189
              refine HT_region ?_
              refine HL_cons rfl ?_
              refine o_assign ?_
              try dsimp only [putL, setL, evL, getL]
              refine HL_nil ?_
              refine hK189 _ _ ?_
              refine HT_ret ?_
              exact hQr _ _ [.bool false] ⟨rfl, trivial⟩ (retH (fun r => laws_FnDiff.post sb s F0 r _ _) (show some _ = some r from H) ⟨rfl, hH.sel [] (by decide)⟩)
            · replace H := iteF hb188 H
              refine HT_false (congrArg Value.bool hb188) ?_
              refine HT_skip ?_
              refine hK174 _ _ ?_
              refine HT_seq_k ?_
              intro K190 hK190
              refine HT_seq_k ?_
              intro K191 hK191
              refine HT_region ?_
              refine HL_cons rfl ?_
              refine o_move ?_
              try dsimp only [putL, setL, evL, getL]
              refine HL_nil ?_
              refine hK191 _ _ ?_
              rcases Bool.eq_false_or_eq_true u153.2 with hb192 | hb192
              · replace H := iteT hb192 H
                refine HT_true (congrArg Value.bool hb192) ?_
                refine HT_seq_k ?_
                intro K193 hK193
                refine HT_region ?_
                refine HL_cons rfl ?_
                refine o_move ?_
                try dsimp only [putL, setL, evL, getL]
                replace H := headE H
                obtain ⟨u194, hu194, H⟩ := H
                refine HL_cons rfl ?_
                refine o_call (args := #[.slice A154 u153.1.length c154]) Try.func73 rfl rfl rfl (impl_TurnDiff.ok s187 s187 no A154 c154 u153.1 (hH.rd 1 rfl) (Hp.own (Bs.refl s187)) _ hu194) ?_
                rintro _ s194 ⟨A195, c195, rfl, hD⟩
                replace hH := hH.back0T hD
                clear hD
                dsimp only [addC, setC, rmC, selC, getC] at hH
                try dsimp only [putL, setL, evL, getL]
                refine HL_cons rfl ?_
                refine o_move ?_
                try dsimp only [putL, setL, evL, getL]
                refine HL_cons rfl ?_
                refine o_extract rfl rfl ?_
                try dsimp only [putL, setL, evL, getL]
                refine HL_cons rfl ?_
                refine o_extract rfl rfl ?_
                try dsimp only [putL, setL, evL, getL]
                refine HL_cons rfl ?_
                refine o_assign ?_
                try dsimp only [putL, setL, evL, getL]
                refine HL_cons rfl ?_
                refine o_assign ?_
                try dsimp only [putL, setL, evL, getL]
                refine HL_nil ?_
                refine hK193 _ _ ?_
                refine HT_seq_k ?_
                intro K196 hK196
                refine HT_region ?_
                refine HL_cons rfl ?_
                refine o_move ?_
                try dsimp only [putL, setL, evL, getL]
                refine HL_cons rfl ?_
                refine o_move ?_
                try dsimp only [putL, setL, evL, getL]
                rcases Bool.eq_false_or_eq_true u194.2 with hb197 | hb197
                · replace H := iteT hb197 H
                  refine HL_want ?_ ?_
                  · exact wantT (j := 1) (b := true) (t := 226) (c := u194.2) rfl rfl rfl rfl hb197
                  refine o_move ?_
                  try dsimp only [putL, setL, evL, getL]
                  refine HL_want ?_ ?_
                  · exact wantT (j := 1) (b := true) (t := 226) (c := u194.2) rfl rfl rfl rfl hb197
                  refine o_move ?_
                  try dsimp only [putL, setL, evL, getL]
                  replace H := headE H
                  obtain ⟨u198, hu198, H⟩ := H
                  refine HL_want ?_ ?_
                  · exact wantT (j := 1) (b := true) (t := 226) (c := u194.2) rfl rfl rfl rfl hb197
                  refine o_call (args := #[.slice A195 u194.1.length c195, .slice A151 u150.length c151]) Try.func71 rfl rfl rfl (laws_sameEdits.ok s194 s194 no A195 c195 u194.1 A151 c151 u150 (hH.rd 2 rfl) (hH.rd 0 rfl) (Hp.own (Bs.refl s194)) _ hu198) ?_
                  rintro _ s198 ⟨rfl, hD⟩
                  replace hH := hH.back0T hD
                  clear hD
                  dsimp only [addC, setC, rmC, selC, getC] at hH
                  try dsimp only [putL, setL, evL, getL]
                  refine HL_cons rfl ?_
                  refine o_pickT rfl hb197 ?_
                  try dsimp only [putL, setL, evL, getL]
                  refine HL_cons rfl ?_
                  refine o_assign ?_
                  try dsimp only [putL, setL, evL, getL]
                  refine HL_nil ?_
                  refine hK196 _ _ ?_
                  refine HT_ret ?_
                  exact hQr _ _ [.bool u198] ⟨rfl, trivial⟩ (retH (fun r => laws_FnDiff.post sb s F0 r _ _) (show some _ = some r from H) ⟨rfl, hH.sel [] (by decide)⟩)
                · replace H := iteF hb197 H
                  refine HL_skip ?_ ?_
                  · exact wantF (j := 1) (b := true) (t := 226) (c := u194.2) rfl rfl rfl rfl hb197
                  try dsimp only [putL, setL, evL, getL]
                  refine HL_skip ?_ ?_
                  · exact wantF (j := 1) (b := true) (t := 226) (c := u194.2) rfl rfl rfl rfl hb197
                  try dsimp only [putL, setL, evL, getL]
                  refine HL_skip ?_ ?_
                  · exact wantF (j := 1) (b := true) (t := 226) (c := u194.2) rfl rfl rfl rfl hb197
                  try dsimp only [putL, setL, evL, getL]
                  refine HL_cons rfl ?_
                  refine o_pickF rfl hb197 ?_
                  try dsimp only [putL, setL, evL, getL]
                  refine HL_cons rfl ?_
                  refine o_assign ?_
                  try dsimp only [putL, setL, evL, getL]
                  refine HL_nil ?_
                  refine hK196 _ _ ?_
                  refine HT_ret ?_
                  exact hQr _ _ [.bool false] ⟨rfl, trivial⟩ (retH (fun r => laws_FnDiff.post sb s F0 r _ _) (show some _ = some r from H) ⟨rfl, hH.sel [] (by decide)⟩)
              · replace H := iteF hb192 H
                refine HT_false (congrArg Value.bool hb192) ?_
                refine HT_skip ?_
                refine hK190 _ _ ?_
                refine HT_seq_k ?_
                intro K199 hK199
                refine HT_region ?_
                refine HL_cons rfl ?_
                refine o_assign ?_
                try dsimp only [putL, setL, evL, getL]
                refine HL_nil ?_
                refine hK199 _ _ ?_
                refine HT_ret ?_
                exact hQr _ _ [.bool true] ⟨rfl, trivial⟩ (retH (fun r => laws_FnDiff.post sb s F0 r _ _) (show some _ = some r from H) ⟨rfl, hH.sel [] (by decide)⟩)
end Go.Proofs.Ytkieinlcpkpcjaa
