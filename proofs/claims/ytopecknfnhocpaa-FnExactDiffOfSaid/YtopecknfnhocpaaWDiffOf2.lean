/- The functions that the law reaches, as plain functions, each with its contract: printed by a program of the prover's. No conditions: lemmas. -/
import Derived.Test.YtopecknfnhocpaaWDiffOf1
set_option linter.unusedVariables false
set_option linter.unusedSimpArgs false
namespace Go.Proofs.Ytopecknfnhocpaa
open Go Go.Proofs.GL
def laws_heldIntS.l1 (p0 : List (Int)) : Nat → Int → Int → Option (Lo Int Int)
  | 0, _, _ => none
  | kf + 1, x47, x48 => if (decide (x48 < (p0.length : Int))) = true then ((rd? p0 x48).bind fun u67 => if (u67 != x47) = true then ((some (-1)).bind fun z => some (Lo.ret z)) else (laws_heldIntS.l1 p0 kf (IntKind.i64.wrap (x47 + 1)) (IntKind.i64.wrap (x48 + 1)))) else (some (Lo.go x47))
def laws_heldIntS.f (p0 : List (Int)) (p1 : Int) : Option Int := (laws_heldIntS.l1 p0 ((((p0.length : Int)) - (0)).toNat + 2) p1 0).bind fun (o : Lo Int Int) => match o with | .go x37 => (some x37) | .ret z => some z
def laws_heldIntS.post (sb s : St) (F0 : Fp) (r : Int) : Value → St → Prop := fun v s' => v = .int .i64 r ∧ Hp sb s F0 s' []
set_option maxRecDepth 100000 in
set_option maxHeartbeats 4000000 in
theorem laws_heldIntS.ok (sb s : St) (F0 : Fp) (A0p : Option Addr) (c0p : Nat) (p0 : List (Int)) (p1 : Int) (HRp0 : Rd KI sb A0p c0p p0) (hH : Hp sb s F0 s []) (r : Int) (H : laws_heldIntS.f p0 p1 = some r) : GCall Try.prog 20 #[.slice A0p p0.length c0p, .int .i64 p1] s (laws_heldIntS.post sb s F0 r) := by
  refine GCall_ofk [.tmp 4] [.slice A0p p0.length c0p, .int .i64 p1, undef, undef, undef, undef, undef, undef, undef, undef, undef, undef, undef, undef, undef, undef, undef, undef, undef, undef, undef] Try.func20 rfl rfl rfl ?_
  intro w Q hQr hQn hQp
  replace H := topE H
  unfold laws_heldIntS.f at H
  refine HT_seq_k ?_
  intro K1 hK1
  refine HT_region ?_
  refine HL_cons rfl ?_
  refine o_assign ?_
  try dsimp only [putL, setL, evL, getL]
  refine HL_nil ?_
  refine hK1 _ _ ?_
  refine HT_seq_k ?_
  intro K2 hK2
  refine HT_seq_k ?_
  intro K3 hK3
  refine HT_region ?_
  refine HL_cons rfl ?_
  refine o_assign ?_
  try dsimp only [putL, setL, evL, getL]
  refine HL_nil ?_
  refine hK3 _ _ ?_
  refine joinH H fun G4 hG4 H => ?_
  refine HT_toK (fun l' s' => ∃ (x37 : Int), G4 (.go x37) = some r ∧ l' = [.slice A0p p0.length c0p, .int .i64 x37, undef, undef, getL l' 4, getL l' 5, getL l' 6, getL l' 7, getL l' 8, getL l' 9, getL l' 10, getL l' 11, getL l' 12, getL l' 13, getL l' 14, getL l' 15, getL l' 16, getL l' 17, getL l' 18, getL l' 19, undef] ∧ Hp sb s F0 s' []) ?_ ?_
  · intro K4 hK4
    refine HT_block ?_
    refine HT_loopK (fun kf l' s' => ∃ (x47 : Int) (x48 : Int), (laws_heldIntS.l1 p0 kf x47 x48).bind G4 = some r ∧ l' = [.slice A0p p0.length c0p, .int .i64 x47, undef, undef, getL l' 4, .int .i64 x48, getL l' 6, getL l' 7, getL l' 8, getL l' 9, getL l' 10, getL l' 11, getL l' 12, getL l' 13, getL l' 14, getL l' 15, getL l' 16, getL l' 17, getL l' 18, getL l' 19, undef] ∧ Hp sb s F0 s' []) ((((p0.length : Int)) - (0)).toNat + 2) ⟨p1, 0, H, rfl, hH⟩ ?_
    rintro kf l' s60 ⟨x47, x48, H, hl, hH⟩ K60 hK60
    generalize getL l' 4 = j4, getL l' 6 = j6, getL l' 7 = j7, getL l' 8 = j8, getL l' 9 = j9, getL l' 10 = j10, getL l' 11 = j11, getL l' 12 = j12, getL l' 13 = j13, getL l' 14 = j14, getL l' 15 = j15, getL l' 16 = j16, getL l' 17 = j17, getL l' 18 = j18, getL l' 19 = j19 at hl
    subst hl
    cases kf with
    | zero => simp [laws_heldIntS.l1] at H
    | succ kf =>
      rw [laws_heldIntS.l1] at H
      refine HT_seq_k ?_
      intro K61 hK61
      refine HT_seq_k ?_
      intro K62 hK62
      refine HT_region ?_
      refine HL_cons rfl ?_
      refine o_move ?_
      try dsimp only [putL, setL, evL, getL]
      refine HL_cons rfl ?_
      refine o_move ?_
      try dsimp only [putL, setL, evL, getL]
      refine HL_cons rfl ?_
      refine o_len rfl Try.underlying22 ?_
      try dsimp only [putL, setL, evL, getL]
      refine HL_cons rfl ?_
      refine o_bin rfl rfl rfl ?_
      try dsimp only [putL, setL, evL, getL]
      refine HL_nil ?_
      refine hK62 _ _ ?_
      rcases Bool.eq_false_or_eq_true (decide (x48 < (p0.length : Int))) with hb63 | hb63
      · replace H := iteT hb63 H
        refine HT_true (congrArg Value.bool hb63) ?_
        refine HT_skip ?_
        refine hK61 _ _ ?_
        refine HT_seq_k ?_
        intro K64 hK64
        refine HT_block ?_
        refine HT_seq_k ?_
        intro K65 hK65
        refine HT_seq_k ?_
        intro K66 hK66
        refine HT_region ?_
        refine HL_cons rfl ?_
        refine o_move ?_
        try dsimp only [putL, setL, evL, getL]
        refine HL_cons rfl ?_
        refine o_move ?_
        try dsimp only [putL, setL, evL, getL]
        obtain ⟨u67, hu67, H⟩ := headE H
        obtain ⟨b67, o67, cs67, hr67, hh67, hel67⟩ := Rd.elb HRp0 hu67
        obtain rfl := hr67
        refine HL_cons rfl ?_
        refine hel67 s60 rfl rfl Try.underlying22 tI3 ?_
        try dsimp only [putL, setL, evL, getL]
        refine HL_cons rfl ?_
        refine o_load' rfl Try.underlying3 rfl ((hh67 hH.bs.mono) 0 _ rfl) ?_
        try dsimp only [putL, setL, evL, getL]
        refine HL_cons rfl ?_
        refine o_move ?_
        try dsimp only [putL, setL, evL, getL]
        refine HL_cons rfl ?_
        refine o_bin rfl rfl rfl ?_
        try dsimp only [putL, setL, evL, getL]
        refine HL_nil ?_
        refine hK66 _ _ ?_
        rcases Bool.eq_false_or_eq_true (u67 != x47) with hb68 | hb68
        · replace H := iteT hb68 H
          refine HT_true (congrArg Value.bool hb68) ?_
          refine HT_seq_k ?_
          intro K69 hK69
          refine HT_region ?_
          refine HL_cons rfl ?_
          refine o_assign ?_
          try dsimp only [putL, setL, evL, getL]
          refine HL_nil ?_
          refine hK69 _ _ ?_
          refine HT_ret ?_
          replace H := escH (fun z hz => hG4 _ hz) H
          obtain rfl := Option.some.inj (show some _ = some r from H)
          exact hQr _ _ [.int .i64 (-1)] ⟨rfl, trivial⟩ ⟨rfl, hH⟩
        · replace H := iteF hb68 H
          refine HT_false (congrArg Value.bool hb68) ?_
          refine HT_skip ?_
          refine hK65 _ _ ?_
          refine HT_region ?_
          refine HL_cons rfl ?_
          refine o_move ?_
          try dsimp only [putL, setL, evL, getL]
          refine HL_cons rfl ?_
          refine o_bin rfl rfl rfl ?_
          try dsimp only [putL, setL, evL, getL]
          refine HL_cons rfl ?_
          refine o_assign ?_
          try dsimp only [putL, setL, evL, getL]
          refine HL_nil ?_
          refine hK64 _ _ ?_
          refine HT_region ?_
          refine HL_cons rfl ?_
          refine o_move ?_
          try dsimp only [putL, setL, evL, getL]
          refine HL_cons rfl ?_
          refine o_bin rfl rfl rfl ?_
          try dsimp only [putL, setL, evL, getL]
          refine HL_cons rfl ?_
          refine o_assign ?_
          try dsimp only [putL, setL, evL, getL]
          refine HL_nil ?_
          exact hK60 _ _ ⟨kf, Nat.lt_succ_self kf, IntKind.i64.wrap (x47 + 1), IntKind.i64.wrap (x48 + 1), H, rfl, hH⟩
      · replace H := iteF hb63 H
        refine HT_false (congrArg Value.bool hb63) ?_
        refine HT_exit ?_
        exact hK4 _ _ ⟨x47, H, rfl, hH⟩
  · rintro l' s70 ⟨x37, H, hl, hH⟩
    generalize getL l' 4 = j4, getL l' 5 = j5, getL l' 6 = j6, getL l' 7 = j7, getL l' 8 = j8, getL l' 9 = j9, getL l' 10 = j10, getL l' 11 = j11, getL l' 12 = j12, getL l' 13 = j13, getL l' 14 = j14, getL l' 15 = j15, getL l' 16 = j16, getL l' 17 = j17, getL l' 18 = j18, getL l' 19 = j19 at hl
    subst hl
    replace H := hG4 _ H
    try dsimp only at H
    refine hK2 _ _ ?_
    refine HT_seq_k ?_
    intro K71 hK71
    refine HT_region ?_
    refine HL_cons rfl ?_
    refine o_move ?_
    try dsimp only [putL, setL, evL, getL]
    refine HL_cons rfl ?_
    refine o_assign ?_
    try dsimp only [putL, setL, evL, getL]
    refine HL_nil ?_
    refine hK71 _ _ ?_
    refine HT_ret ?_
    obtain rfl := Option.some.inj (show some _ = some r from H)
    exact hQr _ _ [.int .i64 x37] ⟨rfl, trivial⟩ ⟨rfl, hH⟩
def laws_heldEditS.l1 (p0 : List ((Int) × (List (Int)))) : Nat → Int → Int → Option (Lo Int Int)
  | 0, _, _ => none
  | kf + 1, x83, x84 => if (decide (x84 < (p0.length : Int))) = true then ((rd? p0 x84).bind fun u112 => if (u112.1 != x83) = true then ((some (-1)).bind fun z => some (Lo.ret z)) else ((rd? p0 x84).bind fun u118 => (laws_heldIntS.f u118.2 (IntKind.i64.wrap (x83 + 1))).bind fun u120 => if (decide (u120 < 0)) = true then ((some (-1)).bind fun z => some (Lo.ret z)) else (laws_heldEditS.l1 p0 kf u120 (IntKind.i64.wrap (x84 + 1))))) else (some (Lo.go x83))
def laws_heldEditS.f (p0 : List ((Int) × (List (Int)))) (p1 : Int) : Option Int := (laws_heldEditS.l1 p0 ((((p0.length : Int)) - (0)).toNat + 2) p1 0).bind fun (o : Lo Int Int) => match o with | .go x64 => (some x64) | .ret z => some z
def laws_heldEditS.post (sb s : St) (F0 : Fp) (r : Int) : Value → St → Prop := fun v s' => v = .int .i64 r ∧ Hp sb s F0 s' []
set_option maxRecDepth 100000 in
set_option maxHeartbeats 4000000 in
theorem laws_heldEditS.ok (sb s : St) (F0 : Fp) (A0p : Option Addr) (c0p : Nat) (p0 : List ((Int) × (List (Int)))) (p1 : Int) (HRp0 : Rd KS99 sb A0p c0p p0) (hH : Hp sb s F0 s []) (r : Int) (H : laws_heldEditS.f p0 p1 = some r) : GCall Try.prog 34 #[.slice A0p p0.length c0p, .int .i64 p1] s (laws_heldEditS.post sb s F0 r) := by
  refine GCall_ofk [.tmp 4] [.slice A0p p0.length c0p, .int .i64 p1, undef, undef, undef, undef, undef, undef, undef, undef, undef, undef, undef, undef, undef, undef, undef, undef, undef, undef, undef, undef, undef, undef, undef, undef, undef, undef, undef, undef, undef] Try.func34 rfl rfl rfl ?_
  intro w Q hQr hQn hQp
  replace H := topE H
  unfold laws_heldEditS.f at H
  refine HT_seq_k ?_
  intro K1 hK1
  refine HT_region ?_
  refine HL_cons rfl ?_
  refine o_assign ?_
  try dsimp only [putL, setL, evL, getL]
  refine HL_nil ?_
  refine hK1 _ _ ?_
  refine HT_seq_k ?_
  intro K2 hK2
  refine HT_seq_k ?_
  intro K3 hK3
  refine HT_region ?_
  refine HL_cons rfl ?_
  refine o_assign ?_
  try dsimp only [putL, setL, evL, getL]
  refine HL_nil ?_
  refine hK3 _ _ ?_
  refine joinH H fun G4 hG4 H => ?_
  refine HT_toK (fun l' s' => ∃ (x64 : Int), G4 (.go x64) = some r ∧ l' = [.slice A0p p0.length c0p, .int .i64 x64, undef, undef, getL l' 4, getL l' 5, getL l' 6, getL l' 7, getL l' 8, getL l' 9, getL l' 10, getL l' 11, getL l' 12, getL l' 13, getL l' 14, getL l' 15, getL l' 16, getL l' 17, getL l' 18, getL l' 19, getL l' 20, getL l' 21, getL l' 22, getL l' 23, getL l' 24, getL l' 25, getL l' 26, getL l' 27, getL l' 28, getL l' 29, undef] ∧ Hp sb s F0 s' []) ?_ ?_
  · intro K4 hK4
    refine HT_block ?_
    refine HT_loopK (fun kf l' s' => ∃ (x83 : Int) (x84 : Int), (laws_heldEditS.l1 p0 kf x83 x84).bind G4 = some r ∧ l' = [.slice A0p p0.length c0p, .int .i64 x83, undef, undef, getL l' 4, .int .i64 x84, getL l' 6, getL l' 7, getL l' 8, getL l' 9, getL l' 10, getL l' 11, getL l' 12, getL l' 13, getL l' 14, getL l' 15, getL l' 16, getL l' 17, getL l' 18, getL l' 19, getL l' 20, getL l' 21, getL l' 22, getL l' 23, getL l' 24, getL l' 25, getL l' 26, getL l' 27, getL l' 28, getL l' 29, undef] ∧ Hp sb s F0 s' []) ((((p0.length : Int)) - (0)).toNat + 2) ⟨p1, 0, H, rfl, hH⟩ ?_
    rintro kf l' s105 ⟨x83, x84, H, hl, hH⟩ K105 hK105
    generalize getL l' 4 = j4, getL l' 6 = j6, getL l' 7 = j7, getL l' 8 = j8, getL l' 9 = j9, getL l' 10 = j10, getL l' 11 = j11, getL l' 12 = j12, getL l' 13 = j13, getL l' 14 = j14, getL l' 15 = j15, getL l' 16 = j16, getL l' 17 = j17, getL l' 18 = j18, getL l' 19 = j19, getL l' 20 = j20, getL l' 21 = j21, getL l' 22 = j22, getL l' 23 = j23, getL l' 24 = j24, getL l' 25 = j25, getL l' 26 = j26, getL l' 27 = j27, getL l' 28 = j28, getL l' 29 = j29 at hl
    subst hl
    cases kf with
    | zero => simp [laws_heldEditS.l1] at H
    | succ kf =>
      rw [laws_heldEditS.l1] at H
      refine HT_seq_k ?_
      intro K106 hK106
      refine HT_seq_k ?_
      intro K107 hK107
      refine HT_region ?_
      refine HL_cons rfl ?_
      refine o_move ?_
      try dsimp only [putL, setL, evL, getL]
      refine HL_cons rfl ?_
      refine o_move ?_
      try dsimp only [putL, setL, evL, getL]
      refine HL_cons rfl ?_
      refine o_len rfl Try.underlying40 ?_
      try dsimp only [putL, setL, evL, getL]
      refine HL_cons rfl ?_
      refine o_bin rfl rfl rfl ?_
      try dsimp only [putL, setL, evL, getL]
      refine HL_nil ?_
      refine hK107 _ _ ?_
      rcases Bool.eq_false_or_eq_true (decide (x84 < (p0.length : Int))) with hb108 | hb108
      · replace H := iteT hb108 H
        refine HT_true (congrArg Value.bool hb108) ?_
        refine HT_skip ?_
        refine hK106 _ _ ?_
        refine HT_seq_k ?_
        intro K109 hK109
        refine HT_block ?_
        refine HT_seq_k ?_
        intro K110 hK110
        refine HT_seq_k ?_
        intro K111 hK111
        refine HT_region ?_
        refine HL_cons rfl ?_
        refine o_move ?_
        try dsimp only [putL, setL, evL, getL]
        refine HL_cons rfl ?_
        refine o_move ?_
        try dsimp only [putL, setL, evL, getL]
        obtain ⟨u112, hu112, H⟩ := headE H
        obtain ⟨b112, o112, cs112, hr112, hh112, hel112⟩ := Rd.elb HRp0 hu112
        obtain ⟨_, _, rfl, rfl, ⟨A113, c113, rfl, D113⟩⟩ := hr112
        refine HL_cons rfl ?_
        refine hel112 s105 rfl rfl Try.underlying40 tI99 ?_
        try dsimp only [putL, setL, evL, getL]
        refine HL_cons rfl ?_
        refine o_faddr' (ft := 3) (off := 0) rfl Try.underlying99 rfl tI3 (by decide) ?_
        try dsimp only [putL, setL, evL, getL]
        refine HL_cons rfl ?_
        refine o_load' rfl Try.underlying3 rfl ((hh112 hH.bs.mono) 0 _ rfl) ?_
        try dsimp only [putL, setL, evL, getL]
        refine HL_cons rfl ?_
        refine o_move ?_
        try dsimp only [putL, setL, evL, getL]
        refine HL_cons rfl ?_
        refine o_bin rfl rfl rfl ?_
        try dsimp only [putL, setL, evL, getL]
        refine HL_nil ?_
        refine hK111 _ _ ?_
        rcases Bool.eq_false_or_eq_true (u112.1 != x83) with hb114 | hb114
        · replace H := iteT hb114 H
          refine HT_true (congrArg Value.bool hb114) ?_
          refine HT_seq_k ?_
          intro K115 hK115
          refine HT_region ?_
          refine HL_cons rfl ?_
          refine o_assign ?_
          try dsimp only [putL, setL, evL, getL]
          refine HL_nil ?_
          refine hK115 _ _ ?_
          refine HT_ret ?_
          replace H := escH (fun z hz => hG4 _ hz) H
          obtain rfl := Option.some.inj (show some _ = some r from H)
          exact hQr _ _ [.int .i64 (-1)] ⟨rfl, trivial⟩ ⟨rfl, hH⟩
        · replace H := iteF hb114 H
          refine HT_false (congrArg Value.bool hb114) ?_
          refine HT_skip ?_
          refine hK110 _ _ ?_
          refine HT_seq_k ?_
          intro K116 hK116
          refine HT_region ?_
          refine HL_cons rfl ?_
          refine o_move ?_
          try dsimp only [putL, setL, evL, getL]
          refine HL_cons rfl ?_
          refine o_bin rfl rfl rfl ?_
          try dsimp only [putL, setL, evL, getL]
          refine HL_cons rfl ?_
          refine o_assign ?_
          try dsimp only [putL, setL, evL, getL]
          refine HL_nil ?_
          refine hK116 _ _ ?_
          refine HT_seq_k ?_
          intro K117 hK117
          refine HT_region ?_
          refine HL_cons rfl ?_
          refine o_move ?_
          try dsimp only [putL, setL, evL, getL]
          refine HL_cons rfl ?_
          refine o_move ?_
          try dsimp only [putL, setL, evL, getL]
          obtain ⟨u118, hu118, H⟩ := headE H
          obtain ⟨b118, o118, cs118, hr118, hh118, hel118⟩ := Rd.elb HRp0 hu118
          obtain ⟨_, _, rfl, rfl, ⟨A119, c119, rfl, D119⟩⟩ := hr118
          refine HL_cons rfl ?_
          refine hel118 s105 rfl rfl Try.underlying40 tI99 ?_
          try dsimp only [putL, setL, evL, getL]
          refine HL_cons rfl ?_
          refine o_faddr' (ft := 22) (off := 1) rfl Try.underlying99 rfl tI22 (by decide) ?_
          try dsimp only [putL, setL, evL, getL]
          refine HL_cons rfl ?_
          refine o_load' rfl Try.underlying22 rfl ((hh118 hH.bs.mono) 1 _ rfl) ?_
          try dsimp only [putL, setL, evL, getL]
          refine HL_cons rfl ?_
          refine o_move ?_
          try dsimp only [putL, setL, evL, getL]
          obtain ⟨u120, hu120, H⟩ := headE H
          refine HL_cons rfl ?_
          refine o_call (args := #[.slice A119 u118.2.length c119, .int .i64 (IntKind.i64.wrap (x83 + 1))]) Try.func20 rfl rfl rfl (laws_heldIntS.ok sb s105 no A119 c119 u118.2 (IntKind.i64.wrap (x83 + 1)) D119 (Hp.own hH.bs) _ hu120) ?_
          rintro _ s120 ⟨rfl, hD⟩
          replace hH := hH.back0 hD (Up.refl _ _ _)
          clear hD
          dsimp only [addC, setC, rmC, selC, getC] at hH
          try dsimp only [putL, setL, evL, getL]
          refine HL_cons rfl ?_
          refine o_assign ?_
          try dsimp only [putL, setL, evL, getL]
          refine HL_nil ?_
          refine hK117 _ _ ?_
          refine HT_seq_k ?_
          intro K121 hK121
          refine HT_region ?_
          refine HL_cons rfl ?_
          refine o_move ?_
          try dsimp only [putL, setL, evL, getL]
          refine HL_cons rfl ?_
          refine o_bin rfl rfl rfl ?_
          try dsimp only [putL, setL, evL, getL]
          refine HL_nil ?_
          refine hK121 _ _ ?_
          rcases Bool.eq_false_or_eq_true (decide (u120 < 0)) with hb122 | hb122
          · replace H := iteT hb122 H
            refine HT_true (congrArg Value.bool hb122) ?_
            refine HT_seq_k ?_
            intro K123 hK123
            refine HT_region ?_
            refine HL_cons rfl ?_
            refine o_assign ?_
            try dsimp only [putL, setL, evL, getL]
            refine HL_nil ?_
            refine hK123 _ _ ?_
            refine HT_ret ?_
            replace H := escH (fun z hz => hG4 _ hz) H
            obtain rfl := Option.some.inj (show some _ = some r from H)
            exact hQr _ _ [.int .i64 (-1)] ⟨rfl, trivial⟩ ⟨rfl, hH⟩
          · replace H := iteF hb122 H
            refine HT_false (congrArg Value.bool hb122) ?_
            refine HT_skip ?_
            refine hK109 _ _ ?_
            refine HT_region ?_
            refine HL_cons rfl ?_
            refine o_move ?_
            try dsimp only [putL, setL, evL, getL]
            refine HL_cons rfl ?_
            refine o_bin rfl rfl rfl ?_
            try dsimp only [putL, setL, evL, getL]
            refine HL_cons rfl ?_
            refine o_assign ?_
            try dsimp only [putL, setL, evL, getL]
            refine HL_nil ?_
            exact hK105 _ _ ⟨kf, Nat.lt_succ_self kf, u120, IntKind.i64.wrap (x84 + 1), H, rfl, hH⟩
      · replace H := iteF hb108 H
        refine HT_false (congrArg Value.bool hb108) ?_
        refine HT_exit ?_
        exact hK4 _ _ ⟨x83, H, rfl, hH⟩
  · rintro l' s124 ⟨x64, H, hl, hH⟩
    generalize getL l' 4 = j4, getL l' 5 = j5, getL l' 6 = j6, getL l' 7 = j7, getL l' 8 = j8, getL l' 9 = j9, getL l' 10 = j10, getL l' 11 = j11, getL l' 12 = j12, getL l' 13 = j13, getL l' 14 = j14, getL l' 15 = j15, getL l' 16 = j16, getL l' 17 = j17, getL l' 18 = j18, getL l' 19 = j19, getL l' 20 = j20, getL l' 21 = j21, getL l' 22 = j22, getL l' 23 = j23, getL l' 24 = j24, getL l' 25 = j25, getL l' 26 = j26, getL l' 27 = j27, getL l' 28 = j28, getL l' 29 = j29 at hl
    subst hl
    replace H := hG4 _ H
    try dsimp only at H
    refine hK2 _ _ ?_
    refine HT_seq_k ?_
    intro K125 hK125
    refine HT_region ?_
    refine HL_cons rfl ?_
    refine o_move ?_
    try dsimp only [putL, setL, evL, getL]
    refine HL_cons rfl ?_
    refine o_assign ?_
    try dsimp only [putL, setL, evL, getL]
    refine HL_nil ?_
    refine hK125 _ _ ?_
    refine HT_ret ?_
    obtain rfl := Option.some.inj (show some _ = some r from H)
    exact hQr _ _ [.int .i64 x64] ⟨rfl, trivial⟩ ⟨rfl, hH⟩
def laws_FnExactDiffOf.f (p0 : List (Int)) (p1 : List (Int)) : Option Bool := if (decide ((p0.length : Int) > 1048576)) = true then (some true) else (if (decide ((p1.length : Int) > 1048576)) = true then (some true) else ((laws_toIntS.f p0).bind fun u11 => (laws_toIntS.f p1).bind fun u13 => (spec_DiffOf.f u11 u13).bind fun u15 => (laws_toIntS.f p0).bind fun u18 => (laws_toIntS.f p1).bind fun u21 => (impl_DiffOf.f u18 u21).bind fun u24 => ((laws_eqEditS.f u24.1 u15.1).bind fun u41 => if (!u41) = true then (some true) else (some (u24.2 != u15.2))).bind fun (o : Bool) => match o with | x40 => (if x40 = true then (some false) else ((laws_toIntS.f p0).bind fun u48 => (laws_eqIntS.f u18 u48).bind fun u50 => if (!u50) = true then (some false) else ((laws_toIntS.f p1).bind fun u55 => (laws_eqIntS.f u21 u55).bind fun u57 => if (!u57) = true then (some false) else ((laws_markIntS.f u18 1).bind fun u62 => (laws_markIntS.f u21 u62.1).bind fun u65 => (if (decide (u65.1 < 0)) = true then (some true) else ((laws_eqEditS.f u24.1 u15.1).bind fun u86 => if (!u86) = true then (some true) else (some (u24.2 != u15.2)))).bind fun (o : Bool) => match o with | x84 => (if x84 = true then (some false) else ((laws_markEditS.f u24.1 1).bind fun u93 => (laws_heldEditS.f u93.2 1).bind fun u97 => if (decide (u97 < 0)) = true then (some false) else (if (u97 != u93.1) = true then (some false) else ((laws_toIntS.f p0).bind fun u107 => (laws_toIntS.f p1).bind fun u109 => (impl_DiffOf.f u107 u109).bind fun u111 => ((laws_eqEditS.f u111.1 u15.1).bind fun u128 => if (!u128) = true then (some true) else (some (u111.2 != u15.2))).bind fun (o : Bool) => match o with | x127 => (if x127 = true then (some false) else ((laws_heldEditS.f u93.2 1).bind fun u135 => if (decide (u135 < 0)) = true then (some false) else (if (u135 != u93.1) = true then (some false) else (some true))))))))))))))
def laws_FnExactDiffOf.post (sb s : St) (F0 : Fp) (r : Bool) : Value → St → Prop := fun v s' => v = .bool r ∧ Hp sb s F0 s' []
set_option maxRecDepth 100000 in
set_option maxHeartbeats 4000000 in
theorem laws_FnExactDiffOf.ok (sb s : St) (F0 : Fp) (A0p : Option Addr) (c0p : Nat) (p0 : List (Int)) (A1p : Option Addr) (c1p : Nat) (p1 : List (Int)) (HRp0 : Rd KI sb A0p c0p p0) (HRp1 : Rd KI sb A1p c1p p1) (hH : Hp sb s F0 s []) (r : Bool) (H : laws_FnExactDiffOf.f p0 p1 = some r) : GCall Try.prog 6 #[.slice A0p p0.length c0p, .slice A1p p1.length c1p] s (laws_FnExactDiffOf.post sb s F0 r) := by
  refine GCall_ofk [.tmp 4] [.slice A0p p0.length c0p, .slice A1p p1.length c1p, undef, undef, undef, undef, undef, undef, undef, undef, undef, undef, undef, undef, undef, undef, undef, undef, undef, undef, undef, undef, undef, undef, undef, undef, undef, undef, undef, undef, undef, undef, undef, undef, undef, undef, undef, undef, undef, undef, undef, undef, undef, undef, undef, undef, undef, undef, undef, undef, undef, undef, undef, undef, undef, undef, undef, undef, undef, undef, undef, undef, undef, undef, undef, undef, undef, undef, undef, undef, undef, undef, undef, undef, undef, undef, undef, undef, undef, undef, undef, undef, undef, undef, undef, undef, undef, undef, undef, undef, undef, undef, undef, undef, undef, undef, undef, undef, undef, undef, undef, undef, undef, undef, undef, undef, undef, undef, undef, undef, undef, undef, undef, undef] Try.func6 rfl rfl rfl ?_
  intro w Q hQr hQn hQp
  replace H := topE H
  unfold laws_FnExactDiffOf.f at H
  refine HT_seq_k ?_
  intro K1 hK1
  refine HT_region ?_
  refine HL_cons rfl ?_
  refine o_assign ?_
  try dsimp only [putL, setL, evL, getL]
  refine HL_nil ?_
  refine hK1 _ _ ?_
  refine HT_seq_k ?_
  intro K2 hK2
  refine HT_seq_k ?_
  intro K3 hK3
  refine HT_region ?_
  refine HL_cons rfl ?_
  refine o_move ?_
  try dsimp only [putL, setL, evL, getL]
  refine HL_cons rfl ?_
  refine o_len rfl Try.underlying22 ?_
  try dsimp only [putL, setL, evL, getL]
  refine HL_cons rfl ?_
  refine o_bin rfl rfl rfl ?_
  try dsimp only [putL, setL, evL, getL]
  refine HL_nil ?_
  refine hK3 _ _ ?_
  rcases Bool.eq_false_or_eq_true (decide ((p0.length : Int) > 1048576)) with hb4 | hb4
  · replace H := iteT hb4 H
    refine HT_true (congrArg Value.bool hb4) ?_
    refine HT_seq_k ?_
    intro K5 hK5
    refine HT_region ?_
    refine HL_cons rfl ?_
    refine o_assign ?_
    try dsimp only [putL, setL, evL, getL]
    refine HL_nil ?_
    refine hK5 _ _ ?_
    refine HT_ret ?_
    obtain rfl := Option.some.inj (show some _ = some r from H)
    exact hQr _ _ [.bool true] ⟨rfl, trivial⟩ ⟨rfl, hH⟩
  · replace H := iteF hb4 H
    refine HT_false (congrArg Value.bool hb4) ?_
    refine HT_skip ?_
    refine hK2 _ _ ?_
    refine HT_seq_k ?_
    intro K6 hK6
    refine HT_seq_k ?_
    intro K7 hK7
    refine HT_region ?_
    refine HL_cons rfl ?_
    refine o_move ?_
    try dsimp only [putL, setL, evL, getL]
    refine HL_cons rfl ?_
    refine o_len rfl Try.underlying22 ?_
    try dsimp only [putL, setL, evL, getL]
    refine HL_cons rfl ?_
    refine o_bin rfl rfl rfl ?_
    try dsimp only [putL, setL, evL, getL]
    refine HL_nil ?_
    refine hK7 _ _ ?_
    rcases Bool.eq_false_or_eq_true (decide ((p1.length : Int) > 1048576)) with hb8 | hb8
    · replace H := iteT hb8 H
      refine HT_true (congrArg Value.bool hb8) ?_
      refine HT_seq_k ?_
      intro K9 hK9
      refine HT_region ?_
      refine HL_cons rfl ?_
      refine o_assign ?_
      try dsimp only [putL, setL, evL, getL]
      refine HL_nil ?_
      refine hK9 _ _ ?_
      refine HT_ret ?_
      obtain rfl := Option.some.inj (show some _ = some r from H)
      exact hQr _ _ [.bool true] ⟨rfl, trivial⟩ ⟨rfl, hH⟩
    · replace H := iteF hb8 H
      refine HT_false (congrArg Value.bool hb8) ?_
      refine HT_skip ?_
      refine hK6 _ _ ?_
      refine HT_seq_k ?_
      intro K10 hK10
      refine HT_region ?_
      refine HL_cons rfl ?_
      refine o_move ?_
      try dsimp only [putL, setL, evL, getL]
      obtain ⟨u11, hu11, H⟩ := headE H
      refine HL_cons rfl ?_
      refine o_call (args := #[.slice A0p p0.length c0p]) Try.func16 rfl rfl rfl (laws_toIntS.ok sb s no A0p c0p p0 HRp0 (Hp.own hH.bs) _ hu11) ?_
      rintro _ s11 ⟨A12, c12, rfl, hD⟩
      replace hH := hH.back0 hD (Up.refl _ _ _)
      clear hD
      dsimp only [addC, setC, rmC, selC, getC] at hH
      try dsimp only [putL, setL, evL, getL]
      refine HL_cons rfl ?_
      refine o_move ?_
      try dsimp only [putL, setL, evL, getL]
      obtain ⟨u13, hu13, H⟩ := headE H
      refine HL_cons rfl ?_
      refine o_call (args := #[.slice A1p p1.length c1p]) Try.func16 rfl rfl rfl (laws_toIntS.ok sb s11 no A1p c1p p1 HRp1 (Hp.own hH.bs) _ hu13) ?_
      rintro _ s13 ⟨A14, c14, rfl, hD⟩
      replace hH := hH.back0 hD (Up.refl _ _ _)
      clear hD
      dsimp only [addC, setC, rmC, selC, getC] at hH
      try dsimp only [putL, setL, evL, getL]
      obtain ⟨u15, hu15, H⟩ := headE H
      refine HL_cons rfl ?_
      refine o_call (args := #[.slice A12 u11.length c12, .slice A14 u13.length c14]) Try.func35 rfl rfl rfl (spec_DiffOf.ok s13 s13 no A12 c12 u11 A14 c14 u13 (hH.rd 0 rfl) (hH.rd 1 rfl) (Hp.own (Bs.refl s13)) _ hu15) ?_
      rintro _ s15 ⟨A16, c16, rfl, hD⟩
      replace hH := hH.back0T hD
      clear hD
      dsimp only [addC, setC, rmC, selC, getC] at hH
      try dsimp only [putL, setL, evL, getL]
      refine HL_cons rfl ?_
      refine o_move ?_
      try dsimp only [putL, setL, evL, getL]
      refine HL_cons rfl ?_
      refine o_extract rfl rfl ?_
      try dsimp only [putL, setL, evL, getL]
      refine HL_cons rfl ?_
      refine o_extract rfl rfl ?_
      try dsimp only [putL, setL, evL, getL]
      refine HL_cons rfl ?_
      refine o_assign ?_
      try dsimp only [putL, setL, evL, getL]
      refine HL_cons rfl ?_
      refine o_assign ?_
      try dsimp only [putL, setL, evL, getL]
      refine HL_nil ?_
      refine hK10 _ _ ?_
      refine HT_seq_k ?_
      intro K17 hK17
      refine HT_region ?_
      refine HL_cons rfl ?_
      refine o_move ?_
      try dsimp only [putL, setL, evL, getL]
      obtain ⟨u18, hu18, H⟩ := headE H
      refine HL_cons rfl ?_
      refine o_call (args := #[.slice A0p p0.length c0p]) Try.func16 rfl rfl rfl (laws_toIntS.ok sb s15 no A0p c0p p0 HRp0 (Hp.own hH.bs) _ hu18) ?_
      rintro _ s18 ⟨A19, c19, rfl, hD⟩
      replace hH := hH.back0 hD (Up.refl _ _ _)
      clear hD
      dsimp only [addC, setC, rmC, selC, getC] at hH
      try dsimp only [putL, setL, evL, getL]
      refine HL_cons rfl ?_
      refine o_assign ?_
      try dsimp only [putL, setL, evL, getL]
      refine HL_nil ?_
      refine hK17 _ _ ?_
      refine HT_seq_k ?_
      intro K20 hK20
      refine HT_region ?_
      refine HL_cons rfl ?_
      refine o_move ?_
      try dsimp only [putL, setL, evL, getL]
      obtain ⟨u21, hu21, H⟩ := headE H
      refine HL_cons rfl ?_
      refine o_call (args := #[.slice A1p p1.length c1p]) Try.func16 rfl rfl rfl (laws_toIntS.ok sb s18 no A1p c1p p1 HRp1 (Hp.own hH.bs) _ hu21) ?_
      rintro _ s21 ⟨A22, c22, rfl, hD⟩
      replace hH := hH.back0 hD (Up.refl _ _ _)
      clear hD
      dsimp only [addC, setC, rmC, selC, getC] at hH
      try dsimp only [putL, setL, evL, getL]
      refine HL_cons rfl ?_
      refine o_assign ?_
      try dsimp only [putL, setL, evL, getL]
      refine HL_nil ?_
      refine hK20 _ _ ?_
      refine HT_seq_k ?_
      intro K23 hK23
      refine HT_region ?_
      refine HL_cons rfl ?_
      refine o_move ?_
      try dsimp only [putL, setL, evL, getL]
      refine HL_cons rfl ?_
      refine o_move ?_
      try dsimp only [putL, setL, evL, getL]
      obtain ⟨u24, hu24, H⟩ := headE H
      refine HL_cons rfl ?_
      refine o_call (args := #[.slice A19 u18.length c19, .slice A22 u21.length c22]) Try.func36 rfl rfl rfl (impl_DiffOf.ok s21 s21 no A19 c19 u18 A22 c22 u21 (hH.rd 3 rfl) (hH.rd 4 rfl) (Hp.own (Bs.refl s21)) _ hu24) ?_
      rintro _ s24 ⟨A25, c25, rfl, hD⟩
      replace hH := hH.back0T hD
      clear hD
      dsimp only [addC, setC, rmC, selC, getC] at hH
      try dsimp only [putL, setL, evL, getL]
      refine HL_cons rfl ?_
      refine o_move ?_
      try dsimp only [putL, setL, evL, getL]
      refine HL_cons rfl ?_
      refine o_extract rfl rfl ?_
      try dsimp only [putL, setL, evL, getL]
      refine HL_cons rfl ?_
      refine o_extract rfl rfl ?_
      try dsimp only [putL, setL, evL, getL]
      refine HL_cons rfl ?_
      refine o_assign ?_
      try dsimp only [putL, setL, evL, getL]
      refine HL_cons rfl ?_
      refine o_assign ?_
      try dsimp only [putL, setL, evL, getL]
      refine HL_nil ?_
      refine hK23 _ _ ?_
      refine HT_seq_k ?_
      intro K36 hK36
      refine joinH H fun G37 hG37 H => ?_
      refine HT_joinK (fun l' s' => ∃ (x40 : Bool), G37 x40 = some r ∧ l' = [.slice A0p p0.length c0p, .slice A1p p1.length c1p, undef, undef, .bool false, .slice A16 u15.1.length c16, .bool u15.2, .slice A19 u18.length c19, .slice A22 u21.length c22, .slice A25 u24.1.length c25, .bool u24.2, undef, undef, undef, undef, undef, .slice A0p p0.length c0p, .int .i64 (p0.length : Int), .bool (decide ((p0.length : Int) > 1048576)), .slice A1p p1.length c1p, .int .i64 (p1.length : Int), .bool (decide ((p1.length : Int) > 1048576)), .tuple #[.slice A16 u15.1.length c16, .bool u15.2], .slice A0p p0.length c0p, .slice A12 u11.length c12, .slice A1p p1.length c1p, .slice A14 u13.length c14, .tuple #[.slice A16 u15.1.length c16, .bool u15.2], .slice A16 u15.1.length c16, .bool u15.2, .slice A0p p0.length c0p, .slice A19 u18.length c19, .slice A1p p1.length c1p, .slice A22 u21.length c22, .tuple #[.slice A25 u24.1.length c25, .bool u24.2], .slice A19 u18.length c19, .slice A22 u21.length c22, .tuple #[.slice A25 u24.1.length c25, .bool u24.2], .slice A25 u24.1.length c25, .bool u24.2, getL l' 40, getL l' 41, getL l' 42, getL l' 43, getL l' 44, getL l' 45, getL l' 46, getL l' 47, .bool x40, undef, undef, undef, undef, undef, undef, undef, undef, undef, undef, undef, undef, undef, undef, undef, undef, undef, undef, undef, undef, undef, undef, undef, undef, undef, undef, undef, undef, undef, undef, undef, undef, undef, undef, undef, undef, undef, undef, undef, undef, undef, undef, undef, undef, undef, undef, undef, undef, undef, undef, undef, undef, undef, undef, undef, undef, undef, undef, undef, undef, undef, undef, undef, undef, undef] ∧ Hp sb s F0 s' [Ck.ol OS99 99 A16 c16 u15.1, Ck.ol OI 3 A19 c19 u18, Ck.ol OI 3 A22 c22 u21, Ck.ol OS99 99 A25 c25 u24.1]) ?_ ?_
      · intro K37 hK37
        refine HT_region ?_
        refine HL_cons rfl ?_
        refine o_move ?_
        try dsimp only [putL, setL, evL, getL]
        refine HL_cons rfl ?_
        refine o_move ?_
        try dsimp only [putL, setL, evL, getL]
        obtain ⟨u41, hu41, H⟩ := headE H
        refine HL_cons rfl ?_
        refine o_call (args := #[.slice A25 u24.1.length c25, .slice A16 u15.1.length c16]) Try.func32 rfl rfl rfl (laws_eqEditS.ok s24 s24 no A25 c25 u24.1 A16 c16 u15.1 (hH.rd 5 rfl) (hH.rd 2 rfl) (Hp.own (Bs.refl s24)) _ hu41) ?_
        rintro _ s41 ⟨rfl, hD⟩
        replace hH := hH.back0T hD
        clear hD
        dsimp only [addC, setC, rmC, selC, getC] at hH
        try dsimp only [putL, setL, evL, getL]
        refine HL_cons rfl ?_
        refine o_not rfl ?_
        try dsimp only [putL, setL, evL, getL]
        refine HL_cons rfl ?_
        refine o_move ?_
        try dsimp only [putL, setL, evL, getL]
        rcases Bool.eq_false_or_eq_true (!u41) with hb42 | hb42
        · replace H := iteT hb42 H
          refine HL_skip ?_ ?_
          · exact wantF (j := 4) (b := false) (t := 44) (c := !u41) rfl rfl rfl rfl hb42
          try dsimp only [putL, setL, evL, getL]
          refine HL_skip ?_ ?_
          · exact wantF (j := 4) (b := false) (t := 44) (c := !u41) rfl rfl rfl rfl hb42
          try dsimp only [putL, setL, evL, getL]
          refine HL_skip ?_ ?_
          · exact wantF (j := 4) (b := false) (t := 44) (c := !u41) rfl rfl rfl rfl hb42
          try dsimp only [putL, setL, evL, getL]
          refine HL_cons rfl ?_
          refine o_pickT rfl hb42 ?_
          try dsimp only [putL, setL, evL, getL]
          refine HL_nil ?_
          exact hK37 _ _ ⟨true, H, rfl, hH.sel [2, 3, 4, 5] (by decide)⟩
        · replace H := iteF hb42 H
          refine HL_want ?_ ?_
          · exact wantT (j := 4) (b := false) (t := 44) (c := !u41) rfl rfl rfl rfl hb42
          refine o_move ?_
          try dsimp only [putL, setL, evL, getL]
          refine HL_want ?_ ?_
          · exact wantT (j := 4) (b := false) (t := 44) (c := !u41) rfl rfl rfl rfl hb42
          refine o_move ?_
          try dsimp only [putL, setL, evL, getL]
          refine HL_want ?_ ?_
          · exact wantT (j := 4) (b := false) (t := 44) (c := !u41) rfl rfl rfl rfl hb42
          refine o_neb rfl rfl Try.underlying4 ?_
          try dsimp only [putL, setL, evL, getL]
          refine HL_cons rfl ?_
          refine o_pickF rfl hb42 ?_
          try dsimp only [putL, setL, evL, getL]
          refine HL_nil ?_
          exact hK37 _ _ ⟨u24.2 != u15.2, H, rfl, hH.sel [2, 3, 4, 5] (by decide)⟩
      · rintro l' s43 ⟨x40, H, hl, hH⟩
        generalize getL l' 40 = j40, getL l' 41 = j41, getL l' 42 = j42, getL l' 43 = j43, getL l' 44 = j44, getL l' 45 = j45, getL l' 46 = j46, getL l' 47 = j47 at hl
        subst hl
        replace H := hG37 _ H
        try dsimp only at H
        rcases Bool.eq_false_or_eq_true x40 with hb44 | hb44
        · replace H := iteT hb44 H
          refine HT_true (congrArg Value.bool hb44) ?_
          refine HT_seq_k ?_
          intro K45 hK45
          refine HT_region ?_
          refine HL_cons rfl ?_
          refine o_assign ?_
          try dsimp only [putL, setL, evL, getL]
          refine HL_nil ?_
          refine hK45 _ _ ?_
          refine HT_ret ?_
          obtain rfl := Option.some.inj (show some _ = some r from H)
          exact hQr _ _ [.bool false] ⟨rfl, trivial⟩ ⟨rfl, hH.sel [] (by decide)⟩
        · replace H := iteF hb44 H
          refine HT_false (congrArg Value.bool hb44) ?_
          refine HT_skip ?_
          refine hK36 _ _ ?_
          refine HT_seq_k ?_
          intro K46 hK46
          refine HT_seq_k ?_
          intro K47 hK47
          refine HT_region ?_
          refine HL_cons rfl ?_
          refine o_move ?_
          try dsimp only [putL, setL, evL, getL]
          refine HL_cons rfl ?_
          refine o_move ?_
          try dsimp only [putL, setL, evL, getL]
          obtain ⟨u48, hu48, H⟩ := headE H
          refine HL_cons rfl ?_
          refine o_call (args := #[.slice A0p p0.length c0p]) Try.func16 rfl rfl rfl (laws_toIntS.ok sb s43 no A0p c0p p0 HRp0 (Hp.own hH.bs) _ hu48) ?_
          rintro _ s48 ⟨A49, c49, rfl, hD⟩
          replace hH := hH.back0 hD (Up.refl _ _ _)
          clear hD
          dsimp only [addC, setC, rmC, selC, getC] at hH
          try dsimp only [putL, setL, evL, getL]
          obtain ⟨u50, hu50, H⟩ := headE H
          refine HL_cons rfl ?_
          refine o_call (args := #[.slice A19 u18.length c19, .slice A49 u48.length c49]) Try.func18 rfl rfl rfl (laws_eqIntS.ok s48 s48 no A19 c19 u18 A49 c49 u48 (hH.rd 1 rfl) (hH.rd 4 rfl) (Hp.own (Bs.refl s48)) _ hu50) ?_
          rintro _ s50 ⟨rfl, hD⟩
          replace hH := hH.back0T hD
          clear hD
          dsimp only [addC, setC, rmC, selC, getC] at hH
          try dsimp only [putL, setL, evL, getL]
          refine HL_cons rfl ?_
          refine o_not rfl ?_
          try dsimp only [putL, setL, evL, getL]
          refine HL_nil ?_
          refine hK47 _ _ ?_
          rcases Bool.eq_false_or_eq_true (!u50) with hb51 | hb51
          · replace H := iteT hb51 H
            refine HT_true (congrArg Value.bool hb51) ?_
            refine HT_seq_k ?_
            intro K52 hK52
            refine HT_region ?_
            refine HL_cons rfl ?_
            refine o_assign ?_
            try dsimp only [putL, setL, evL, getL]
            refine HL_nil ?_
            refine hK52 _ _ ?_
            refine HT_ret ?_
            obtain rfl := Option.some.inj (show some _ = some r from H)
            exact hQr _ _ [.bool false] ⟨rfl, trivial⟩ ⟨rfl, hH.sel [] (by decide)⟩
          · replace H := iteF hb51 H
            refine HT_false (congrArg Value.bool hb51) ?_
            refine HT_skip ?_
            refine hK46 _ _ ?_
            refine HT_seq_k ?_
            intro K53 hK53
            refine HT_seq_k ?_
            intro K54 hK54
            refine HT_region ?_
            refine HL_cons rfl ?_
            refine o_move ?_
            try dsimp only [putL, setL, evL, getL]
            refine HL_cons rfl ?_
            refine o_move ?_
            try dsimp only [putL, setL, evL, getL]
            obtain ⟨u55, hu55, H⟩ := headE H
            refine HL_cons rfl ?_
            refine o_call (args := #[.slice A1p p1.length c1p]) Try.func16 rfl rfl rfl (laws_toIntS.ok sb s50 no A1p c1p p1 HRp1 (Hp.own hH.bs) _ hu55) ?_
            rintro _ s55 ⟨A56, c56, rfl, hD⟩
            replace hH := hH.back0 hD (Up.refl _ _ _)
            clear hD
            dsimp only [addC, setC, rmC, selC, getC] at hH
            try dsimp only [putL, setL, evL, getL]
            obtain ⟨u57, hu57, H⟩ := headE H
            refine HL_cons rfl ?_
            refine o_call (args := #[.slice A22 u21.length c22, .slice A56 u55.length c56]) Try.func18 rfl rfl rfl (laws_eqIntS.ok s55 s55 no A22 c22 u21 A56 c56 u55 (hH.rd 2 rfl) (hH.rd 5 rfl) (Hp.own (Bs.refl s55)) _ hu57) ?_
            rintro _ s57 ⟨rfl, hD⟩
            replace hH := hH.back0T hD
            clear hD
            dsimp only [addC, setC, rmC, selC, getC] at hH
            try dsimp only [putL, setL, evL, getL]
            refine HL_cons rfl ?_
            refine o_not rfl ?_
            try dsimp only [putL, setL, evL, getL]
            refine HL_nil ?_
            refine hK54 _ _ ?_
            rcases Bool.eq_false_or_eq_true (!u57) with hb58 | hb58
            · replace H := iteT hb58 H
              refine HT_true (congrArg Value.bool hb58) ?_
              refine HT_seq_k ?_
              intro K59 hK59
              refine HT_region ?_
              refine HL_cons rfl ?_
              refine o_assign ?_
              try dsimp only [putL, setL, evL, getL]
              refine HL_nil ?_
              refine hK59 _ _ ?_
              refine HT_ret ?_
              obtain rfl := Option.some.inj (show some _ = some r from H)
              exact hQr _ _ [.bool false] ⟨rfl, trivial⟩ ⟨rfl, hH.sel [] (by decide)⟩
            · replace H := iteF hb58 H
              refine HT_false (congrArg Value.bool hb58) ?_
              refine HT_skip ?_
              refine hK53 _ _ ?_
              refine HT_seq_k ?_
              intro K60 hK60
              refine HT_region ?_
              refine HL_cons rfl ?_
              refine o_assign ?_
              try dsimp only [putL, setL, evL, getL]
              refine HL_nil ?_
              refine hK60 _ _ ?_
              refine HT_seq_k ?_
              intro K61 hK61
              refine HT_region ?_
              refine HL_cons rfl ?_
              refine o_move ?_
              try dsimp only [putL, setL, evL, getL]
              refine HL_cons rfl ?_
              refine o_move ?_
              try dsimp only [putL, setL, evL, getL]
              obtain ⟨u62, hu62, H⟩ := headE H
              obtain ⟨F1, hA, hB⟩ := hH.take [1] (by decide)
              dsimp only [addC, setC, rmC, selC, getC] at hA
              refine HL_cons rfl ?_
              refine o_call (args := #[.slice A19 u18.length c19, .int .i64 1]) Try.func19 rfl rfl rfl (laws_markIntS.ok sb s57 F1 A19 c19 u18 1 hA _ hu62) ?_
              rintro _ s62 ⟨rfl, hD, hl63⟩
              replace hH := hB _ _ _ (Up.refl _ _ _) hD
              clear hD hA hB
              dsimp only [addC, setC, rmC, selC, getC] at hH
              try dsimp only [putL, setL, evL, getL]
              refine HL_cons rfl ?_
              refine o_assign ?_
              try dsimp only [putL, setL, evL, getL]
              refine HL_nil ?_
              refine hK61 _ _ ?_
              refine HT_seq_k ?_
              intro K64 hK64
              refine HT_region ?_
              refine HL_cons rfl ?_
              refine o_move ?_
              try dsimp only [putL, setL, evL, getL]
              refine HL_cons rfl ?_
              refine o_move ?_
              try dsimp only [putL, setL, evL, getL]
              obtain ⟨u65, hu65, H⟩ := headE H
              obtain ⟨F1, hA, hB⟩ := hH.take [2] (by decide)
              dsimp only [addC, setC, rmC, selC, getC] at hA
              refine HL_cons rfl ?_
              refine o_call (args := #[.slice A22 u21.length c22, .int .i64 u62.1]) Try.func19 rfl rfl rfl (laws_markIntS.ok sb s62 F1 A22 c22 u21 u62.1 hA _ hu65) ?_
              rintro _ s65 ⟨rfl, hD, hl66⟩
              replace hH := hB _ _ _ (Up.refl _ _ _) hD
              clear hD hA hB
              dsimp only [addC, setC, rmC, selC, getC] at hH
              try dsimp only [putL, setL, evL, getL]
              refine HL_cons rfl ?_
              refine o_assign ?_
              try dsimp only [putL, setL, evL, getL]
              refine HL_nil ?_
              refine hK64 _ _ ?_
              refine HT_seq_k ?_
              intro K79 hK79
              refine joinH H fun G80 hG80 H => ?_
              refine HT_joinK (fun l' s' => ∃ (x84 : Bool), G80 x84 = some r ∧ l' = [.slice A0p p0.length c0p, .slice A1p p1.length c1p, undef, undef, .bool false, .slice A16 u15.1.length c16, .bool u15.2, .slice A19 u18.length c19, .slice A22 u21.length c22, .slice A25 u24.1.length c25, .bool u24.2, .int .i64 u65.1, undef, undef, undef, undef, .slice A0p p0.length c0p, .int .i64 (p0.length : Int), .bool (decide ((p0.length : Int) > 1048576)), .slice A1p p1.length c1p, .int .i64 (p1.length : Int), .bool (decide ((p1.length : Int) > 1048576)), .tuple #[.slice A16 u15.1.length c16, .bool u15.2], .slice A0p p0.length c0p, .slice A12 u11.length c12, .slice A1p p1.length c1p, .slice A14 u13.length c14, .tuple #[.slice A16 u15.1.length c16, .bool u15.2], .slice A16 u15.1.length c16, .bool u15.2, .slice A0p p0.length c0p, .slice A19 u18.length c19, .slice A1p p1.length c1p, .slice A22 u21.length c22, .tuple #[.slice A25 u24.1.length c25, .bool u24.2], .slice A19 u18.length c19, .slice A22 u21.length c22, .tuple #[.slice A25 u24.1.length c25, .bool u24.2], .slice A25 u24.1.length c25, .bool u24.2, j40, j41, j42, j43, j44, j45, j46, j47, .bool x40, .slice A19 u18.length c19, .slice A0p p0.length c0p, .slice A49 u48.length c49, .bool u50, .bool (!u50), .slice A22 u21.length c22, .slice A1p p1.length c1p, .slice A56 u55.length c56, .bool u57, .bool (!u57), .slice A19 u18.length c19, .int .i64 1, .int .i64 u62.1, .slice A22 u21.length c22, .int .i64 u62.1, .int .i64 u65.1, getL l' 65, getL l' 66, getL l' 67, getL l' 68, getL l' 69, getL l' 70, getL l' 71, getL l' 72, getL l' 73, getL l' 74, getL l' 75, getL l' 76, .bool x84, undef, undef, undef, undef, undef, undef, undef, undef, undef, undef, undef, undef, undef, undef, undef, undef, undef, undef, undef, undef, undef, undef, undef, undef, undef, undef, undef, undef, undef, undef, undef, undef, undef, undef, undef, undef] ∧ Hp sb s F0 s' [Ck.ol OS99 99 A16 c16 u15.1, Ck.ol OS99 99 A25 c25 u24.1]) ?_ ?_
              · intro K80 hK80
                refine HT_region ?_
                refine HL_cons rfl ?_
                refine o_move ?_
                try dsimp only [putL, setL, evL, getL]
                refine HL_cons rfl ?_
                refine o_bin rfl rfl rfl ?_
                try dsimp only [putL, setL, evL, getL]
                refine HL_cons rfl ?_
                refine o_move ?_
                try dsimp only [putL, setL, evL, getL]
                rcases Bool.eq_false_or_eq_true (decide (u65.1 < 0)) with hb85 | hb85
                · replace H := iteT hb85 H
                  refine HL_skip ?_ ?_
                  · exact wantF (j := 2) (b := false) (t := 67) (c := decide (u65.1 < 0)) rfl rfl rfl rfl hb85
                  try dsimp only [putL, setL, evL, getL]
                  refine HL_skip ?_ ?_
                  · exact wantF (j := 2) (b := false) (t := 67) (c := decide (u65.1 < 0)) rfl rfl rfl rfl hb85
                  try dsimp only [putL, setL, evL, getL]
                  refine HL_skip ?_ ?_
                  · exact wantF (j := 2) (b := false) (t := 67) (c := decide (u65.1 < 0)) rfl rfl rfl rfl hb85
                  try dsimp only [putL, setL, evL, getL]
                  refine HL_skip ?_ ?_
                  · exact wantF (j := 2) (b := false) (t := 67) (c := decide (u65.1 < 0)) rfl rfl rfl rfl hb85
                  try dsimp only [putL, setL, evL, getL]
                  refine HL_cons rfl ?_
                  refine o_pickT rfl hb85 ?_
                  try dsimp only [putL, setL, evL, getL]
                  refine HL_cons rfl ?_
                  refine o_move ?_
                  try dsimp only [putL, setL, evL, getL]
                  refine HL_skip ?_ ?_
                  · exact wantF (j := 8) (b := false) (t := 73) (c := true) rfl rfl rfl rfl rfl
                  try dsimp only [putL, setL, evL, getL]
                  refine HL_skip ?_ ?_
                  · exact wantF (j := 8) (b := false) (t := 73) (c := true) rfl rfl rfl rfl rfl
                  try dsimp only [putL, setL, evL, getL]
                  refine HL_skip ?_ ?_
                  · exact wantF (j := 8) (b := false) (t := 73) (c := true) rfl rfl rfl rfl rfl
                  try dsimp only [putL, setL, evL, getL]
                  refine HL_cons rfl ?_
                  refine o_pickT rfl rfl ?_
                  try dsimp only [putL, setL, evL, getL]
                  refine HL_nil ?_
                  exact hK80 _ _ ⟨true, H, rfl, hH.sel [0, 3] (by decide)⟩
                · replace H := iteF hb85 H
                  refine HL_want ?_ ?_
                  · exact wantT (j := 2) (b := false) (t := 67) (c := decide (u65.1 < 0)) rfl rfl rfl rfl hb85
                  refine o_move ?_
                  try dsimp only [putL, setL, evL, getL]
                  refine HL_want ?_ ?_
                  · exact wantT (j := 2) (b := false) (t := 67) (c := decide (u65.1 < 0)) rfl rfl rfl rfl hb85
                  refine o_move ?_
                  try dsimp only [putL, setL, evL, getL]
                  obtain ⟨u86, hu86, H⟩ := headE H
                  refine HL_want ?_ ?_
                  · exact wantT (j := 2) (b := false) (t := 67) (c := decide (u65.1 < 0)) rfl rfl rfl rfl hb85
                  refine o_call (args := #[.slice A25 u24.1.length c25, .slice A16 u15.1.length c16]) Try.func32 rfl rfl rfl (laws_eqEditS.ok s65 s65 no A25 c25 u24.1 A16 c16 u15.1 (hH.rd 3 rfl) (hH.rd 0 rfl) (Hp.own (Bs.refl s65)) _ hu86) ?_
                  rintro _ s86 ⟨rfl, hD⟩
                  replace hH := hH.back0T hD
                  clear hD
                  dsimp only [addC, setC, rmC, selC, getC] at hH
                  try dsimp only [putL, setL, evL, getL]
                  refine HL_want ?_ ?_
                  · exact wantT (j := 2) (b := false) (t := 67) (c := decide (u65.1 < 0)) rfl rfl rfl rfl hb85
                  refine o_not rfl ?_
                  try dsimp only [putL, setL, evL, getL]
                  refine HL_cons rfl ?_
                  refine o_pickF rfl hb85 ?_
                  try dsimp only [putL, setL, evL, getL]
                  refine HL_cons rfl ?_
                  refine o_move ?_
                  try dsimp only [putL, setL, evL, getL]
                  rcases Bool.eq_false_or_eq_true (!u86) with hb87 | hb87
                  · replace H := iteT hb87 H
                    refine HL_skip ?_ ?_
                    · exact wantF (j := 8) (b := false) (t := 73) (c := !u86) rfl rfl rfl rfl hb87
                    try dsimp only [putL, setL, evL, getL]
                    refine HL_skip ?_ ?_
                    · exact wantF (j := 8) (b := false) (t := 73) (c := !u86) rfl rfl rfl rfl hb87
                    try dsimp only [putL, setL, evL, getL]
                    refine HL_skip ?_ ?_
                    · exact wantF (j := 8) (b := false) (t := 73) (c := !u86) rfl rfl rfl rfl hb87
                    try dsimp only [putL, setL, evL, getL]
                    refine HL_cons rfl ?_
                    refine o_pickT rfl hb87 ?_
                    try dsimp only [putL, setL, evL, getL]
                    refine HL_nil ?_
                    exact hK80 _ _ ⟨true, H, rfl, hH.sel [0, 3] (by decide)⟩
                  · replace H := iteF hb87 H
                    refine HL_want ?_ ?_
                    · exact wantT (j := 8) (b := false) (t := 73) (c := !u86) rfl rfl rfl rfl hb87
                    refine o_move ?_
                    try dsimp only [putL, setL, evL, getL]
                    refine HL_want ?_ ?_
                    · exact wantT (j := 8) (b := false) (t := 73) (c := !u86) rfl rfl rfl rfl hb87
                    refine o_move ?_
                    try dsimp only [putL, setL, evL, getL]
                    refine HL_want ?_ ?_
                    · exact wantT (j := 8) (b := false) (t := 73) (c := !u86) rfl rfl rfl rfl hb87
                    refine o_neb rfl rfl Try.underlying4 ?_
                    try dsimp only [putL, setL, evL, getL]
                    refine HL_cons rfl ?_
                    refine o_pickF rfl hb87 ?_
                    try dsimp only [putL, setL, evL, getL]
                    refine HL_nil ?_
                    exact hK80 _ _ ⟨u24.2 != u15.2, H, rfl, hH.sel [0, 3] (by decide)⟩
              · rintro l' s88 ⟨x84, H, hl, hH⟩
                generalize getL l' 65 = j65, getL l' 66 = j66, getL l' 67 = j67, getL l' 68 = j68, getL l' 69 = j69, getL l' 70 = j70, getL l' 71 = j71, getL l' 72 = j72, getL l' 73 = j73, getL l' 74 = j74, getL l' 75 = j75, getL l' 76 = j76 at hl
                subst hl
                replace H := hG80 _ H
                try dsimp only at H
                rcases Bool.eq_false_or_eq_true x84 with hb89 | hb89
                · replace H := iteT hb89 H
                  refine HT_true (congrArg Value.bool hb89) ?_
                  refine HT_seq_k ?_
                  intro K90 hK90
                  refine HT_region ?_
                  refine HL_cons rfl ?_
                  refine o_assign ?_
                  try dsimp only [putL, setL, evL, getL]
                  refine HL_nil ?_
                  refine hK90 _ _ ?_
                  refine HT_ret ?_
                  obtain rfl := Option.some.inj (show some _ = some r from H)
                  exact hQr _ _ [.bool false] ⟨rfl, trivial⟩ ⟨rfl, hH.sel [] (by decide)⟩
                · replace H := iteF hb89 H
                  refine HT_false (congrArg Value.bool hb89) ?_
                  refine HT_skip ?_
                  refine hK79 _ _ ?_
                  refine HT_seq_k ?_
                  intro K91 hK91
                  refine HT_region ?_
                  refine HL_cons rfl ?_
                  refine o_assign ?_
                  try dsimp only [putL, setL, evL, getL]
                  refine HL_nil ?_
                  refine hK91 _ _ ?_
                  refine HT_seq_k ?_
                  intro K92 hK92
                  refine HT_region ?_
                  refine HL_cons rfl ?_
                  refine o_move ?_
                  try dsimp only [putL, setL, evL, getL]
                  refine HL_cons rfl ?_
                  refine o_move ?_
                  try dsimp only [putL, setL, evL, getL]
                  obtain ⟨u93, hu93, H⟩ := headE H
                  obtain ⟨F1, hA, hB⟩ := hH.take [1] (by decide)
                  dsimp only [addC, setC, rmC, selC, getC] at hA
                  refine HL_cons rfl ?_
                  refine o_call (args := #[.slice A25 u24.1.length c25, .int .i64 1]) Try.func33 rfl rfl rfl (laws_markEditS.ok sb s88 F1 A25 c25 u24.1 1 hA _ hu93) ?_
                  rintro _ s93 ⟨rfl, hD, hl94⟩
                  replace hH := hB _ _ _ (Up.refl _ _ _) hD
                  clear hD hA hB
                  dsimp only [addC, setC, rmC, selC, getC] at hH
                  try dsimp only [putL, setL, evL, getL]
                  refine HL_cons rfl ?_
                  refine o_assign ?_
                  try dsimp only [putL, setL, evL, getL]
                  refine HL_nil ?_
                  refine hK92 _ _ ?_
                  refine HT_seq_k ?_
                  intro K95 hK95
                  refine HT_region ?_
                  refine HL_cons rfl ?_
                  refine o_assign ?_
                  try dsimp only [putL, setL, evL, getL]
                  refine HL_nil ?_
                  refine hK95 _ _ ?_
                  refine HT_seq_k ?_
                  intro K96 hK96
                  refine HT_region ?_
                  refine HL_cons rfl ?_
                  refine o_move ?_
                  try dsimp only [putL, setL, evL, getL]
                  refine HL_cons rfl ?_
                  refine o_move ?_
                  try dsimp only [putL, setL, evL, getL]
                  obtain ⟨u97, hu97, H⟩ := headE H
                  refine HL_cons rfl ?_
                  refine o_call (args := #[.slice A25 u93.2.length c25, .int .i64 1]) Try.func34 rfl rfl (by show ([.slice A25 u24.1.length c25, .int .i64 1] : List Value) = [.slice A25 u93.2.length c25, .int .i64 1]; rw [hl94]; first | done | rfl) (laws_heldEditS.ok s93 s93 no A25 c25 u93.2 1 (hH.rd 2 rfl) (Hp.own (Bs.refl s93)) _ hu97) ?_
                  rintro _ s97 ⟨rfl, hD⟩
                  replace hH := hH.back0T hD
                  clear hD
                  dsimp only [addC, setC, rmC, selC, getC] at hH
                  try dsimp only [putL, setL, evL, getL]
                  refine HL_cons rfl ?_
                  refine o_assign ?_
                  try dsimp only [putL, setL, evL, getL]
                  refine HL_nil ?_
                  refine hK96 _ _ ?_
                  refine HT_seq_k ?_
                  intro K98 hK98
                  refine HT_seq_k ?_
                  intro K99 hK99
                  refine HT_region ?_
                  refine HL_cons rfl ?_
                  refine o_move ?_
                  try dsimp only [putL, setL, evL, getL]
                  refine HL_cons rfl ?_
                  refine o_bin rfl rfl rfl ?_
                  try dsimp only [putL, setL, evL, getL]
                  refine HL_nil ?_
                  refine hK99 _ _ ?_
                  rcases Bool.eq_false_or_eq_true (decide (u97 < 0)) with hb100 | hb100
                  · replace H := iteT hb100 H
                    refine HT_true (congrArg Value.bool hb100) ?_
                    refine HT_seq_k ?_
                    intro K101 hK101
                    refine HT_region ?_
                    refine HL_cons rfl ?_
                    refine o_assign ?_
                    try dsimp only [putL, setL, evL, getL]
                    refine HL_nil ?_
                    refine hK101 _ _ ?_
                    refine HT_ret ?_
                    obtain rfl := Option.some.inj (show some _ = some r from H)
                    exact hQr _ _ [.bool false] ⟨rfl, trivial⟩ ⟨rfl, hH.sel [] (by decide)⟩
                  · replace H := iteF hb100 H
                    refine HT_false (congrArg Value.bool hb100) ?_
                    refine HT_skip ?_
                    refine hK98 _ _ ?_
                    refine HT_seq_k ?_
                    intro K102 hK102
                    refine HT_seq_k ?_
                    intro K103 hK103
                    refine HT_region ?_
                    refine HL_cons rfl ?_
                    refine o_move ?_
                    try dsimp only [putL, setL, evL, getL]
                    refine HL_cons rfl ?_
                    refine o_move ?_
                    try dsimp only [putL, setL, evL, getL]
                    refine HL_cons rfl ?_
                    refine o_bin rfl rfl rfl ?_
                    try dsimp only [putL, setL, evL, getL]
                    refine HL_nil ?_
                    refine hK103 _ _ ?_
                    rcases Bool.eq_false_or_eq_true (u97 != u93.1) with hb104 | hb104
                    · replace H := iteT hb104 H
                      refine HT_true (congrArg Value.bool hb104) ?_
                      refine HT_seq_k ?_
                      intro K105 hK105
                      refine HT_region ?_
                      refine HL_cons rfl ?_
                      refine o_assign ?_
                      try dsimp only [putL, setL, evL, getL]
                      refine HL_nil ?_
                      refine hK105 _ _ ?_
                      refine HT_ret ?_
                      obtain rfl := Option.some.inj (show some _ = some r from H)
                      exact hQr _ _ [.bool false] ⟨rfl, trivial⟩ ⟨rfl, hH.sel [] (by decide)⟩
                    · replace H := iteF hb104 H
                      refine HT_false (congrArg Value.bool hb104) ?_
                      refine HT_skip ?_
                      refine hK102 _ _ ?_
                      refine HT_seq_k ?_
                      intro K106 hK106
                      refine HT_region ?_
                      refine HL_cons rfl ?_
                      refine o_move ?_
                      try dsimp only [putL, setL, evL, getL]
                      obtain ⟨u107, hu107, H⟩ := headE H
                      refine HL_cons rfl ?_
                      refine o_call (args := #[.slice A0p p0.length c0p]) Try.func16 rfl rfl rfl (laws_toIntS.ok sb s97 no A0p c0p p0 HRp0 (Hp.own hH.bs) _ hu107) ?_
                      rintro _ s107 ⟨A108, c108, rfl, hD⟩
                      replace hH := hH.back0 hD (Up.refl _ _ _)
                      clear hD
                      dsimp only [addC, setC, rmC, selC, getC] at hH
                      try dsimp only [putL, setL, evL, getL]
                      refine HL_cons rfl ?_
                      refine o_move ?_
                      try dsimp only [putL, setL, evL, getL]
                      obtain ⟨u109, hu109, H⟩ := headE H
                      refine HL_cons rfl ?_
                      refine o_call (args := #[.slice A1p p1.length c1p]) Try.func16 rfl rfl rfl (laws_toIntS.ok sb s107 no A1p c1p p1 HRp1 (Hp.own hH.bs) _ hu109) ?_
                      rintro _ s109 ⟨A110, c110, rfl, hD⟩
                      replace hH := hH.back0 hD (Up.refl _ _ _)
                      clear hD
                      dsimp only [addC, setC, rmC, selC, getC] at hH
                      try dsimp only [putL, setL, evL, getL]
                      obtain ⟨u111, hu111, H⟩ := headE H
                      refine HL_cons rfl ?_
                      refine o_call (args := #[.slice A108 u107.length c108, .slice A110 u109.length c110]) Try.func36 rfl rfl rfl (impl_DiffOf.ok s109 s109 no A108 c108 u107 A110 c110 u109 (hH.rd 3 rfl) (hH.rd 4 rfl) (Hp.own (Bs.refl s109)) _ hu111) ?_
                      rintro _ s111 ⟨A112, c112, rfl, hD⟩
                      replace hH := hH.back0T hD
                      clear hD
                      dsimp only [addC, setC, rmC, selC, getC] at hH
                      try dsimp only [putL, setL, evL, getL]
                      refine HL_cons rfl ?_
                      refine o_move ?_
                      try dsimp only [putL, setL, evL, getL]
                      refine HL_cons rfl ?_
                      refine o_extract rfl rfl ?_
                      try dsimp only [putL, setL, evL, getL]
                      refine HL_cons rfl ?_
                      refine o_extract rfl rfl ?_
                      try dsimp only [putL, setL, evL, getL]
                      refine HL_cons rfl ?_
                      refine o_assign ?_
                      try dsimp only [putL, setL, evL, getL]
                      refine HL_cons rfl ?_
                      refine o_assign ?_
                      try dsimp only [putL, setL, evL, getL]
                      refine HL_nil ?_
                      refine hK106 _ _ ?_
                      refine HT_seq_k ?_
                      intro K123 hK123
                      refine joinH H fun G124 hG124 H => ?_
                      refine HT_joinK (fun l' s' => ∃ (x127 : Bool), G124 x127 = some r ∧ l' = [.slice A0p p0.length c0p, .slice A1p p1.length c1p, undef, undef, .bool false, .slice A16 u15.1.length c16, .bool u15.2, .slice A19 u18.length c19, .slice A22 u21.length c22, .slice A25 u24.1.length c25, .bool u24.2, .int .i64 u65.1, .int .i64 u93.1, .int .i64 u97, .slice A112 u111.1.length c112, .bool u111.2, .slice A0p p0.length c0p, .int .i64 (p0.length : Int), .bool (decide ((p0.length : Int) > 1048576)), .slice A1p p1.length c1p, .int .i64 (p1.length : Int), .bool (decide ((p1.length : Int) > 1048576)), .tuple #[.slice A16 u15.1.length c16, .bool u15.2], .slice A0p p0.length c0p, .slice A12 u11.length c12, .slice A1p p1.length c1p, .slice A14 u13.length c14, .tuple #[.slice A16 u15.1.length c16, .bool u15.2], .slice A16 u15.1.length c16, .bool u15.2, .slice A0p p0.length c0p, .slice A19 u18.length c19, .slice A1p p1.length c1p, .slice A22 u21.length c22, .tuple #[.slice A25 u24.1.length c25, .bool u24.2], .slice A19 u18.length c19, .slice A22 u21.length c22, .tuple #[.slice A25 u24.1.length c25, .bool u24.2], .slice A25 u24.1.length c25, .bool u24.2, j40, j41, j42, j43, j44, j45, j46, j47, .bool x40, .slice A19 u18.length c19, .slice A0p p0.length c0p, .slice A49 u48.length c49, .bool u50, .bool (!u50), .slice A22 u21.length c22, .slice A1p p1.length c1p, .slice A56 u55.length c56, .bool u57, .bool (!u57), .slice A19 u18.length c19, .int .i64 1, .int .i64 u62.1, .slice A22 u21.length c22, .int .i64 u62.1, .int .i64 u65.1, j65, j66, j67, j68, j69, j70, j71, j72, j73, j74, j75, j76, .bool x84, .slice A25 u24.1.length c25, .int .i64 1, .int .i64 u93.1, .slice A25 u24.1.length c25, .int .i64 1, .int .i64 u97, .int .i64 u97, .bool (decide (u97 < 0)), .int .i64 u97, .int .i64 u93.1, .bool (u97 != u93.1), .tuple #[.slice A112 u111.1.length c112, .bool u111.2], .slice A0p p0.length c0p, .slice A108 u107.length c108, .slice A1p p1.length c1p, .slice A110 u109.length c110, .tuple #[.slice A112 u111.1.length c112, .bool u111.2], .slice A112 u111.1.length c112, .bool u111.2, getL l' 97, getL l' 98, getL l' 99, getL l' 100, getL l' 101, getL l' 102, getL l' 103, getL l' 104, .bool x127, undef, undef, undef, undef, undef, undef, undef, undef] ∧ Hp sb s F0 s' [Ck.ol OS99 99 A25 c25 u93.2]) ?_ ?_
                      · intro K124 hK124
                        refine HT_region ?_
                        refine HL_cons rfl ?_
                        refine o_move ?_
                        try dsimp only [putL, setL, evL, getL]
                        refine HL_cons rfl ?_
                        refine o_move ?_
                        try dsimp only [putL, setL, evL, getL]
                        obtain ⟨u128, hu128, H⟩ := headE H
                        refine HL_cons rfl ?_
                        refine o_call (args := #[.slice A112 u111.1.length c112, .slice A16 u15.1.length c16]) Try.func32 rfl rfl rfl (laws_eqEditS.ok s111 s111 no A112 c112 u111.1 A16 c16 u15.1 (hH.rd 5 rfl) (hH.rd 0 rfl) (Hp.own (Bs.refl s111)) _ hu128) ?_
                        rintro _ s128 ⟨rfl, hD⟩
                        replace hH := hH.back0T hD
                        clear hD
                        dsimp only [addC, setC, rmC, selC, getC] at hH
                        try dsimp only [putL, setL, evL, getL]
                        refine HL_cons rfl ?_
                        refine o_not rfl ?_
                        try dsimp only [putL, setL, evL, getL]
                        refine HL_cons rfl ?_
                        refine o_move ?_
                        try dsimp only [putL, setL, evL, getL]
                        rcases Bool.eq_false_or_eq_true (!u128) with hb129 | hb129
                        · replace H := iteT hb129 H
                          refine HL_skip ?_ ?_
                          · exact wantF (j := 4) (b := false) (t := 101) (c := !u128) rfl rfl rfl rfl hb129
                          try dsimp only [putL, setL, evL, getL]
                          refine HL_skip ?_ ?_
                          · exact wantF (j := 4) (b := false) (t := 101) (c := !u128) rfl rfl rfl rfl hb129
                          try dsimp only [putL, setL, evL, getL]
                          refine HL_skip ?_ ?_
                          · exact wantF (j := 4) (b := false) (t := 101) (c := !u128) rfl rfl rfl rfl hb129
                          try dsimp only [putL, setL, evL, getL]
                          refine HL_cons rfl ?_
                          refine o_pickT rfl hb129 ?_
                          try dsimp only [putL, setL, evL, getL]
                          refine HL_nil ?_
                          exact hK124 _ _ ⟨true, H, rfl, hH.sel [2] (by decide)⟩
                        · replace H := iteF hb129 H
                          refine HL_want ?_ ?_
                          · exact wantT (j := 4) (b := false) (t := 101) (c := !u128) rfl rfl rfl rfl hb129
                          refine o_move ?_
                          try dsimp only [putL, setL, evL, getL]
                          refine HL_want ?_ ?_
                          · exact wantT (j := 4) (b := false) (t := 101) (c := !u128) rfl rfl rfl rfl hb129
                          refine o_move ?_
                          try dsimp only [putL, setL, evL, getL]
                          refine HL_want ?_ ?_
                          · exact wantT (j := 4) (b := false) (t := 101) (c := !u128) rfl rfl rfl rfl hb129
                          refine o_neb rfl rfl Try.underlying4 ?_
                          try dsimp only [putL, setL, evL, getL]
                          refine HL_cons rfl ?_
                          refine o_pickF rfl hb129 ?_
                          try dsimp only [putL, setL, evL, getL]
                          refine HL_nil ?_
                          exact hK124 _ _ ⟨u111.2 != u15.2, H, rfl, hH.sel [2] (by decide)⟩
                      · rintro l' s130 ⟨x127, H, hl, hH⟩
                        generalize getL l' 97 = j97, getL l' 98 = j98, getL l' 99 = j99, getL l' 100 = j100, getL l' 101 = j101, getL l' 102 = j102, getL l' 103 = j103, getL l' 104 = j104 at hl
                        subst hl
                        replace H := hG124 _ H
                        try dsimp only at H
                        rcases Bool.eq_false_or_eq_true x127 with hb131 | hb131
                        · replace H := iteT hb131 H
                          refine HT_true (congrArg Value.bool hb131) ?_
                          refine HT_seq_k ?_
                          intro K132 hK132
                          refine HT_region ?_
                          refine HL_cons rfl ?_
                          refine o_assign ?_
                          try dsimp only [putL, setL, evL, getL]
                          refine HL_nil ?_
                          refine hK132 _ _ ?_
                          refine HT_ret ?_
                          obtain rfl := Option.some.inj (show some _ = some r from H)
                          exact hQr _ _ [.bool false] ⟨rfl, trivial⟩ ⟨rfl, hH.sel [] (by decide)⟩
                        · replace H := iteF hb131 H
                          refine HT_false (congrArg Value.bool hb131) ?_
                          refine HT_skip ?_
                          refine hK123 _ _ ?_
                          refine HT_seq_k ?_
                          intro K133 hK133
                          refine HT_region ?_
                          refine HL_cons rfl ?_
                          refine o_assign ?_
                          try dsimp only [putL, setL, evL, getL]
                          refine HL_nil ?_
                          refine hK133 _ _ ?_
                          refine HT_seq_k ?_
                          intro K134 hK134
                          refine HT_region ?_
                          refine HL_cons rfl ?_
                          refine o_move ?_
                          try dsimp only [putL, setL, evL, getL]
                          refine HL_cons rfl ?_
                          refine o_move ?_
                          try dsimp only [putL, setL, evL, getL]
                          obtain ⟨u135, hu135, H⟩ := headE H
                          refine HL_cons rfl ?_
                          refine o_call (args := #[.slice A25 u93.2.length c25, .int .i64 1]) Try.func34 rfl rfl (by show ([.slice A25 u24.1.length c25, .int .i64 1] : List Value) = [.slice A25 u93.2.length c25, .int .i64 1]; rw [hl94]; first | done | rfl) (laws_heldEditS.ok s130 s130 no A25 c25 u93.2 1 (hH.rd 0 rfl) (Hp.own (Bs.refl s130)) _ hu135) ?_
                          rintro _ s135 ⟨rfl, hD⟩
                          replace hH := hH.back0T hD
                          clear hD
                          dsimp only [addC, setC, rmC, selC, getC] at hH
                          try dsimp only [putL, setL, evL, getL]
                          refine HL_cons rfl ?_
                          refine o_assign ?_
                          try dsimp only [putL, setL, evL, getL]
                          refine HL_nil ?_
                          refine hK134 _ _ ?_
                          refine HT_seq_k ?_
                          intro K136 hK136
                          refine HT_seq_k ?_
                          intro K137 hK137
                          refine HT_region ?_
                          refine HL_cons rfl ?_
                          refine o_move ?_
                          try dsimp only [putL, setL, evL, getL]
                          refine HL_cons rfl ?_
                          refine o_bin rfl rfl rfl ?_
                          try dsimp only [putL, setL, evL, getL]
                          refine HL_nil ?_
                          refine hK137 _ _ ?_
                          rcases Bool.eq_false_or_eq_true (decide (u135 < 0)) with hb138 | hb138
                          · replace H := iteT hb138 H
                            refine HT_true (congrArg Value.bool hb138) ?_
                            refine HT_seq_k ?_
                            intro K139 hK139
                            refine HT_region ?_
                            refine HL_cons rfl ?_
                            refine o_assign ?_
                            try dsimp only [putL, setL, evL, getL]
                            refine HL_nil ?_
                            refine hK139 _ _ ?_
                            refine HT_ret ?_
                            obtain rfl := Option.some.inj (show some _ = some r from H)
                            exact hQr _ _ [.bool false] ⟨rfl, trivial⟩ ⟨rfl, hH.sel [] (by decide)⟩
                          · replace H := iteF hb138 H
                            refine HT_false (congrArg Value.bool hb138) ?_
                            refine HT_skip ?_
                            refine hK136 _ _ ?_
                            refine HT_seq_k ?_
                            intro K140 hK140
                            refine HT_seq_k ?_
                            intro K141 hK141
                            refine HT_region ?_
                            refine HL_cons rfl ?_
                            refine o_move ?_
                            try dsimp only [putL, setL, evL, getL]
                            refine HL_cons rfl ?_
                            refine o_move ?_
                            try dsimp only [putL, setL, evL, getL]
                            refine HL_cons rfl ?_
                            refine o_bin rfl rfl rfl ?_
                            try dsimp only [putL, setL, evL, getL]
                            refine HL_nil ?_
                            refine hK141 _ _ ?_
                            rcases Bool.eq_false_or_eq_true (u135 != u93.1) with hb142 | hb142
                            · replace H := iteT hb142 H
                              refine HT_true (congrArg Value.bool hb142) ?_
                              refine HT_seq_k ?_
                              intro K143 hK143
                              refine HT_region ?_
                              refine HL_cons rfl ?_
                              refine o_assign ?_
                              try dsimp only [putL, setL, evL, getL]
                              refine HL_nil ?_
                              refine hK143 _ _ ?_
                              refine HT_ret ?_
                              obtain rfl := Option.some.inj (show some _ = some r from H)
                              exact hQr _ _ [.bool false] ⟨rfl, trivial⟩ ⟨rfl, hH.sel [] (by decide)⟩
                            · replace H := iteF hb142 H
                              refine HT_false (congrArg Value.bool hb142) ?_
                              refine HT_skip ?_
                              refine hK140 _ _ ?_
                              refine HT_seq_k ?_
                              intro K144 hK144
                              refine HT_region ?_
                              refine HL_cons rfl ?_
                              refine o_assign ?_
                              try dsimp only [putL, setL, evL, getL]
                              refine HL_nil ?_
                              refine hK144 _ _ ?_
                              refine HT_ret ?_
                              obtain rfl := Option.some.inj (show some _ = some r from H)
                              exact hQr _ _ [.bool true] ⟨rfl, trivial⟩ ⟨rfl, hH.sel [] (by decide)⟩
end Go.Proofs.Ytopecknfnhocpaa
