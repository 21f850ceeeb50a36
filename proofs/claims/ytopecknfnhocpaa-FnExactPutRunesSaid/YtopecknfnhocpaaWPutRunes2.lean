/- The functions that the law reaches, as plain functions, each with its contract: printed by a program of the prover's. No conditions: lemmas. -/
import Derived.Test.YtopecknfnhocpaaWPutRunes1
set_option linter.unusedVariables false
set_option linter.unusedSimpArgs false
namespace Go.Proofs.Ytopecknfnhocpaa
open Go Go.Proofs.GL
def laws_eqScreen.f (p0_0 : Int) (p0_1 : Int) (p0_2 : List (Int)) (p0_3 : Int) (p0_4 : Int) (p1_0 : Int) (p1_1 : Int) (p1_2 : List (Int)) (p1_3 : Int) (p1_4 : Int) : Option Bool := if (p0_0 != p1_0) = true then (some false) else (if (p0_1 != p1_1) = true then (some false) else ((laws_eqIntS.f p0_2 p1_2).bind fun u14 => if (!u14) = true then (some false) else (if (p0_3 != p1_3) = true then (some false) else (if (p0_4 != p1_4) = true then (some false) else (some true)))))
def laws_eqScreen.post (sb s : St) (F0 : Fp) (r : Bool) : Value → St → Prop := fun v s' => v = .bool r ∧ Hp sb s F0 s' []
set_option maxRecDepth 100000 in
set_option maxHeartbeats 4000000 in
theorem laws_eqScreen.ok (sb s : St) (F0 : Fp) (p0_0 : Int) (p0_1 : Int) (A0_2p : Option Addr) (c0_2p : Nat) (p0_2 : List (Int)) (p0_3 : Int) (p0_4 : Int) (p1_0 : Int) (p1_1 : Int) (A1_2p : Option Addr) (c1_2p : Nat) (p1_2 : List (Int)) (p1_3 : Int) (p1_4 : Int) (HRp0_2 : Rd KI sb A0_2p c0_2p p0_2) (HRp1_2 : Rd KI sb A1_2p c1_2p p1_2) (hH : Hp sb s F0 s []) (r : Bool) (H : laws_eqScreen.f p0_0 p0_1 p0_2 p0_3 p0_4 p1_0 p1_1 p1_2 p1_3 p1_4 = some r) : GCall Try.prog 43 #[.agg #[.int .i64 p0_0, .int .i64 p0_1, .slice A0_2p p0_2.length c0_2p, .int .i64 p0_3, .int .i64 p0_4], .agg #[.int .i64 p1_0, .int .i64 p1_1, .slice A1_2p p1_2.length c1_2p, .int .i64 p1_3, .int .i64 p1_4]] s (laws_eqScreen.post sb s F0 r) := by
  refine GCall_ofk [.tmp 4] [.agg #[.int .i64 p0_0, .int .i64 p0_1, .slice A0_2p p0_2.length c0_2p, .int .i64 p0_3, .int .i64 p0_4], .agg #[.int .i64 p1_0, .int .i64 p1_1, .slice A1_2p p1_2.length c1_2p, .int .i64 p1_3, .int .i64 p1_4], undef, undef, undef, undef, undef, undef, undef, undef, undef, undef, undef, undef, undef, undef, undef, undef, undef, undef, undef, undef, undef, undef, undef, undef, undef, undef, undef, undef, undef] Try.func43 rfl rfl rfl ?_
  intro w Q hQr hQn hQp
  replace H := topE H
  unfold laws_eqScreen.f at H
  refine HT_seq_k ?_
  intro K1 hK1
  refine HT_region ?_
  refine HL_cons rfl ?_
  refine o_boxH hH rfl ?_
  intro b2 s2 hH' hG
  replace hH : Hp sb s F0 s2 [Ck.ov b2 [.int .i64 p0_0, .int .i64 p0_1, .slice A0_2p p0_2.length c0_2p, .int .i64 p0_3, .int .i64 p0_4] 55] := hH'
  clear hH' hG
  try dsimp only [putL, setL, evL, getL]
  refine HL_cons rfl ?_
  refine o_boxH hH rfl ?_
  intro b3 s3 hH' hG
  replace hH : Hp sb s F0 s3 [Ck.ov b2 [.int .i64 p0_0, .int .i64 p0_1, .slice A0_2p p0_2.length c0_2p, .int .i64 p0_3, .int .i64 p0_4] 55, Ck.ov b3 [.int .i64 p1_0, .int .i64 p1_1, .slice A1_2p p1_2.length c1_2p, .int .i64 p1_3, .int .i64 p1_4] 55] := hH'
  clear hH' hG
  try dsimp only [putL, setL, evL, getL]
  refine HL_cons rfl ?_
  refine o_assign ?_
  try dsimp only [putL, setL, evL, getL]
  refine HL_nil ?_
  refine hK1 _ _ ?_
  refine HT_seq_k ?_
  intro K4 hK4
  refine HT_seq_k ?_
  intro K5 hK5
  refine HT_region ?_
  refine HL_cons rfl ?_
  refine o_faddr' (ft := 3) (off := 0) rfl Try.underlying55 rfl tI3 (by decide) ?_
  try dsimp only [putL, setL, evL, getL]
  refine HL_cons rfl ?_
  refine o_load' rfl Try.underlying3 rfl (hH.hasv 0 rfl rfl) ?_
  try dsimp only [putL, setL, evL, getL]
  refine HL_cons rfl ?_
  refine o_faddr' (ft := 3) (off := 0) rfl Try.underlying55 rfl tI3 (by decide) ?_
  try dsimp only [putL, setL, evL, getL]
  refine HL_cons rfl ?_
  refine o_load' rfl Try.underlying3 rfl (hH.hasv 1 rfl rfl) ?_
  try dsimp only [putL, setL, evL, getL]
  refine HL_cons rfl ?_
  refine o_bin rfl rfl rfl ?_
  try dsimp only [putL, setL, evL, getL]
  refine HL_nil ?_
  refine hK5 _ _ ?_
  rcases Bool.eq_false_or_eq_true (p0_0 != p1_0) with hb6 | hb6
  · replace H := iteT hb6 H
    refine HT_true (congrArg Value.bool hb6) ?_
    refine HT_seq_k ?_
    intro K7 hK7
    refine HT_region ?_
    refine HL_cons rfl ?_
    refine o_assign ?_
    try dsimp only [putL, setL, evL, getL]
    refine HL_nil ?_
    refine hK7 _ _ ?_
    refine HT_ret ?_
    obtain rfl := Option.some.inj (show some _ = some r from H)
    exact hQr _ _ [.bool false] ⟨rfl, trivial⟩ ⟨rfl, hH.sel [] (by decide)⟩
  · replace H := iteF hb6 H
    refine HT_false (congrArg Value.bool hb6) ?_
    refine HT_skip ?_
    refine hK4 _ _ ?_
    refine HT_seq_k ?_
    intro K8 hK8
    refine HT_seq_k ?_
    intro K9 hK9
    refine HT_region ?_
    refine HL_cons rfl ?_
    refine o_faddr' (ft := 3) (off := 1) rfl Try.underlying55 rfl tI3 (by decide) ?_
    try dsimp only [putL, setL, evL, getL]
    refine HL_cons rfl ?_
    refine o_load' rfl Try.underlying3 rfl (hH.hasv 0 rfl rfl) ?_
    try dsimp only [putL, setL, evL, getL]
    refine HL_cons rfl ?_
    refine o_faddr' (ft := 3) (off := 1) rfl Try.underlying55 rfl tI3 (by decide) ?_
    try dsimp only [putL, setL, evL, getL]
    refine HL_cons rfl ?_
    refine o_load' rfl Try.underlying3 rfl (hH.hasv 1 rfl rfl) ?_
    try dsimp only [putL, setL, evL, getL]
    refine HL_cons rfl ?_
    refine o_bin rfl rfl rfl ?_
    try dsimp only [putL, setL, evL, getL]
    refine HL_nil ?_
    refine hK9 _ _ ?_
    rcases Bool.eq_false_or_eq_true (p0_1 != p1_1) with hb10 | hb10
    · replace H := iteT hb10 H
      refine HT_true (congrArg Value.bool hb10) ?_
      refine HT_seq_k ?_
      intro K11 hK11
      refine HT_region ?_
      refine HL_cons rfl ?_
      refine o_assign ?_
      try dsimp only [putL, setL, evL, getL]
      refine HL_nil ?_
      refine hK11 _ _ ?_
      refine HT_ret ?_
      obtain rfl := Option.some.inj (show some _ = some r from H)
      exact hQr _ _ [.bool false] ⟨rfl, trivial⟩ ⟨rfl, hH.sel [] (by decide)⟩
    · replace H := iteF hb10 H
      refine HT_false (congrArg Value.bool hb10) ?_
      refine HT_skip ?_
      refine hK8 _ _ ?_
      refine HT_seq_k ?_
      intro K12 hK12
      refine HT_seq_k ?_
      intro K13 hK13
      refine HT_region ?_
      refine HL_cons rfl ?_
      refine o_faddr' (ft := 22) (off := 2) rfl Try.underlying55 rfl tI22 (by decide) ?_
      try dsimp only [putL, setL, evL, getL]
      refine HL_cons rfl ?_
      refine o_load' rfl Try.underlying22 rfl (hH.hasv 0 rfl rfl) ?_
      try dsimp only [putL, setL, evL, getL]
      refine HL_cons rfl ?_
      refine o_faddr' (ft := 22) (off := 2) rfl Try.underlying55 rfl tI22 (by decide) ?_
      try dsimp only [putL, setL, evL, getL]
      refine HL_cons rfl ?_
      refine o_load' rfl Try.underlying22 rfl (hH.hasv 1 rfl rfl) ?_
      try dsimp only [putL, setL, evL, getL]
      obtain ⟨u14, hu14, H⟩ := headE H
      refine HL_cons rfl ?_
      refine o_call (args := #[.slice A0_2p p0_2.length c0_2p, .slice A1_2p p1_2.length c1_2p]) Try.func18 rfl rfl rfl (laws_eqIntS.ok sb s3 no A0_2p c0_2p p0_2 A1_2p c1_2p p1_2 HRp0_2 HRp1_2 (Hp.own hH.bs) _ hu14) ?_
      rintro _ s14 ⟨rfl, hD⟩
      replace hH := hH.back0 hD (Up.refl _ _ _)
      clear hD
      dsimp only [addC, setC, rmC, selC, getC] at hH
      try dsimp only [putL, setL, evL, getL]
      refine HL_cons rfl ?_
      refine o_not rfl ?_
      try dsimp only [putL, setL, evL, getL]
      refine HL_nil ?_
      refine hK13 _ _ ?_
      rcases Bool.eq_false_or_eq_true (!u14) with hb15 | hb15
      · replace H := iteT hb15 H
        refine HT_true (congrArg Value.bool hb15) ?_
        refine HT_seq_k ?_
        intro K16 hK16
        refine HT_region ?_
        refine HL_cons rfl ?_
        refine o_assign ?_
        try dsimp only [putL, setL, evL, getL]
        refine HL_nil ?_
        refine hK16 _ _ ?_
        refine HT_ret ?_
        obtain rfl := Option.some.inj (show some _ = some r from H)
        exact hQr _ _ [.bool false] ⟨rfl, trivial⟩ ⟨rfl, hH.sel [] (by decide)⟩
      · replace H := iteF hb15 H
        refine HT_false (congrArg Value.bool hb15) ?_
        refine HT_skip ?_
        refine hK12 _ _ ?_
        refine HT_seq_k ?_
        intro K17 hK17
        refine HT_seq_k ?_
        intro K18 hK18
        refine HT_region ?_
        refine HL_cons rfl ?_
        refine o_faddr' (ft := 3) (off := 3) rfl Try.underlying55 rfl tI3 (by decide) ?_
        try dsimp only [putL, setL, evL, getL]
        refine HL_cons rfl ?_
        refine o_load' rfl Try.underlying3 rfl (hH.hasv 0 rfl rfl) ?_
        try dsimp only [putL, setL, evL, getL]
        refine HL_cons rfl ?_
        refine o_faddr' (ft := 3) (off := 3) rfl Try.underlying55 rfl tI3 (by decide) ?_
        try dsimp only [putL, setL, evL, getL]
        refine HL_cons rfl ?_
        refine o_load' rfl Try.underlying3 rfl (hH.hasv 1 rfl rfl) ?_
        try dsimp only [putL, setL, evL, getL]
        refine HL_cons rfl ?_
        refine o_bin rfl rfl rfl ?_
        try dsimp only [putL, setL, evL, getL]
        refine HL_nil ?_
        refine hK18 _ _ ?_
        rcases Bool.eq_false_or_eq_true (p0_3 != p1_3) with hb19 | hb19
        · replace H := iteT hb19 H
          refine HT_true (congrArg Value.bool hb19) ?_
          refine HT_seq_k ?_
          intro K20 hK20
          refine HT_region ?_
          refine HL_cons rfl ?_
          refine o_assign ?_
          try dsimp only [putL, setL, evL, getL]
          refine HL_nil ?_
          refine hK20 _ _ ?_
          refine HT_ret ?_
          obtain rfl := Option.some.inj (show some _ = some r from H)
          exact hQr _ _ [.bool false] ⟨rfl, trivial⟩ ⟨rfl, hH.sel [] (by decide)⟩
        · replace H := iteF hb19 H
          refine HT_false (congrArg Value.bool hb19) ?_
          refine HT_skip ?_
          refine hK17 _ _ ?_
          refine HT_seq_k ?_
          intro K21 hK21
          refine HT_seq_k ?_
          intro K22 hK22
          refine HT_region ?_
          refine HL_cons rfl ?_
          refine o_faddr' (ft := 3) (off := 4) rfl Try.underlying55 rfl tI3 (by decide) ?_
          try dsimp only [putL, setL, evL, getL]
          refine HL_cons rfl ?_
          refine o_load' rfl Try.underlying3 rfl (hH.hasv 0 rfl rfl) ?_
          try dsimp only [putL, setL, evL, getL]
          refine HL_cons rfl ?_
          refine o_faddr' (ft := 3) (off := 4) rfl Try.underlying55 rfl tI3 (by decide) ?_
          try dsimp only [putL, setL, evL, getL]
          refine HL_cons rfl ?_
          refine o_load' rfl Try.underlying3 rfl (hH.hasv 1 rfl rfl) ?_
          try dsimp only [putL, setL, evL, getL]
          refine HL_cons rfl ?_
          refine o_bin rfl rfl rfl ?_
          try dsimp only [putL, setL, evL, getL]
          refine HL_nil ?_
          refine hK22 _ _ ?_
          rcases Bool.eq_false_or_eq_true (p0_4 != p1_4) with hb23 | hb23
          · replace H := iteT hb23 H
            refine HT_true (congrArg Value.bool hb23) ?_
            refine HT_seq_k ?_
            intro K24 hK24
            refine HT_region ?_
            refine HL_cons rfl ?_
            refine o_assign ?_
            try dsimp only [putL, setL, evL, getL]
            refine HL_nil ?_
            refine hK24 _ _ ?_
            refine HT_ret ?_
            obtain rfl := Option.some.inj (show some _ = some r from H)
            exact hQr _ _ [.bool false] ⟨rfl, trivial⟩ ⟨rfl, hH.sel [] (by decide)⟩
          · replace H := iteF hb23 H
            refine HT_false (congrArg Value.bool hb23) ?_
            refine HT_skip ?_
            refine hK21 _ _ ?_
            refine HT_seq_k ?_
            intro K25 hK25
            refine HT_region ?_
            refine HL_cons rfl ?_
            refine o_assign ?_
            try dsimp only [putL, setL, evL, getL]
            refine HL_nil ?_
            refine hK25 _ _ ?_
            refine HT_ret ?_
            obtain rfl := Option.some.inj (show some _ = some r from H)
            exact hQr _ _ [.bool true] ⟨rfl, trivial⟩ ⟨rfl, hH.sel [] (by decide)⟩
def laws_markIntS.l1 (p0 : List (Int)) : Nat → (List (Int)) → Int → Int → Option (Int × (List (Int)))
  | 0, _, _, _ => none
  | kf + 1, x42, x43, x44 => if (decide (x44 < (p0.length : Int))) = true then ((rd? x42 x44).bind fun u61 => (st? x42 x44 x43).bind fun x62 => laws_markIntS.l1 p0 kf x62 (IntKind.i64.wrap (x43 + 1)) (IntKind.i64.wrap (x44 + 1))) else (some (x43, x42))
def laws_markIntS.f (p0 : List (Int)) (p1 : Int) : Option (Int × (List (Int))) := (laws_markIntS.l1 p0 ((((p0.length : Int)) - (0)).toNat + 2) p0 p1 0).bind fun (o : Int × (List (Int))) => match o with | (x33, x34) => (some (x33, x34))
def laws_markIntS.post (sb s : St) (F0 : Fp) (A0p : Option Addr) (c0p : Nat) (p0 : List (Int)) (r : Int × (List (Int))) : Value → St → Prop := fun v s' => v = .int .i64 r.1 ∧ Hp sb s F0 s' [Ck.ol OI 3 A0p c0p r.2] ∧ r.2.length = p0.length
set_option maxRecDepth 100000 in
set_option maxHeartbeats 4000000 in
theorem laws_markIntS.ok (sb s : St) (F0 : Fp) (A0p : Option Addr) (c0p : Nat) (p0 : List (Int)) (p1 : Int) (hH : Hp sb s F0 s [Ck.ol OI 3 A0p c0p p0]) (r : Int × (List (Int))) (H : laws_markIntS.f p0 p1 = some r) : GCall Try.prog 19 #[.slice A0p p0.length c0p, .int .i64 p1] s (laws_markIntS.post sb s F0 A0p c0p p0 r) := by
  refine GCall_ofk [.tmp 4] [.slice A0p p0.length c0p, .int .i64 p1, undef, undef, undef, undef, undef, undef, undef, undef, undef, undef, undef, undef, undef, undef, undef, undef, undef] Try.func19 rfl rfl rfl ?_
  intro w Q hQr hQn hQp
  replace H := topE H
  unfold laws_markIntS.f at H
  refine HT_seq_k ?_
  intro K1 hK1
  refine HT_region ?_
  refine HL_cons rfl ?_
  refine o_assign ?_
  try dsimp only [putL, setL, evL, getL]
  refine HL_nil ?_
  refine hK1 _ _ ?_
  refine HT_seq_k ?_
  intro K2 hK2
  refine HT_seq_k ?_
  intro K3 hK3
  refine HT_region ?_
  refine HL_cons rfl ?_
  refine o_assign ?_
  try dsimp only [putL, setL, evL, getL]
  refine HL_nil ?_
  refine hK3 _ _ ?_
  refine joinH H fun G4 hG4 H => ?_
  refine HT_toK (fun l' s' => ∃ (x33 : Int) (x34 : List (Int)), G4 (x33, x34) = some r ∧ l' = [.slice A0p p0.length c0p, .int .i64 x33, undef, undef, .int .i64 0, getL l' 5, getL l' 6, getL l' 7, getL l' 8, getL l' 9, getL l' 10, getL l' 11, getL l' 12, getL l' 13, getL l' 14, getL l' 15, getL l' 16, getL l' 17, undef] ∧ Hp sb s F0 s' [Ck.ol OI 3 A0p c0p x34] ∧ x34.length = p0.length) ?_ ?_
  · intro K4 hK4
    refine HT_block ?_
    refine HT_loopK (fun kf l' s' => ∃ (x42 : List (Int)) (x43 : Int) (x44 : Int), (laws_markIntS.l1 p0 kf x42 x43 x44).bind G4 = some r ∧ l' = [.slice A0p p0.length c0p, .int .i64 x43, undef, undef, .int .i64 0, .int .i64 x44, getL l' 6, getL l' 7, getL l' 8, getL l' 9, getL l' 10, getL l' 11, getL l' 12, getL l' 13, getL l' 14, getL l' 15, getL l' 16, getL l' 17, undef] ∧ Hp sb s F0 s' [Ck.ol OI 3 A0p c0p x42] ∧ x42.length = p0.length) ((((p0.length : Int)) - (0)).toNat + 2) ⟨p0, p1, 0, H, rfl, hH, rfl⟩ ?_
    rintro kf l' s55 ⟨x42, x43, x44, H, hl, hH, hl42⟩ K55 hK55
    generalize getL l' 6 = j6, getL l' 7 = j7, getL l' 8 = j8, getL l' 9 = j9, getL l' 10 = j10, getL l' 11 = j11, getL l' 12 = j12, getL l' 13 = j13, getL l' 14 = j14, getL l' 15 = j15, getL l' 16 = j16, getL l' 17 = j17 at hl
    subst hl
    cases kf with
    | zero => simp [laws_markIntS.l1] at H
    | succ kf =>
      rw [laws_markIntS.l1] at H
      refine HT_seq_k ?_
      intro K56 hK56
      refine HT_seq_k ?_
      intro K57 hK57
      refine HT_region ?_
      refine HL_cons rfl ?_
      refine o_move ?_
      try dsimp only [putL, setL, evL, getL]
      refine HL_cons rfl ?_
      refine o_move ?_
      try dsimp only [putL, setL, evL, getL]
      refine HL_cons rfl ?_
      refine o_len rfl Try.underlying22 ?_
      try dsimp only [putL, setL, evL, getL]
      refine HL_cons rfl ?_
      refine o_bin rfl rfl rfl ?_
      try dsimp only [putL, setL, evL, getL]
      refine HL_nil ?_
      refine hK57 _ _ ?_
      rcases Bool.eq_false_or_eq_true (decide (x44 < (p0.length : Int))) with hb58 | hb58
      · replace H := iteT hb58 H
        refine HT_true (congrArg Value.bool hb58) ?_
        refine HT_skip ?_
        refine hK56 _ _ ?_
        refine HT_seq_k ?_
        intro K59 hK59
        refine HT_block ?_
        refine HT_seq_k ?_
        intro K60 hK60
        refine HT_region ?_
        refine HL_cons rfl ?_
        refine o_move ?_
        try dsimp only [putL, setL, evL, getL]
        refine HL_cons rfl ?_
        refine o_move ?_
        try dsimp only [putL, setL, evL, getL]
        refine HL_cons rfl ?_
        refine o_move ?_
        try dsimp only [putL, setL, evL, getL]
        obtain ⟨u61, hu61, H⟩ := headE H
        obtain ⟨b61, o61, cs61, hA61, hr61, hh61, hel61⟩ := hH.elo 0 rfl hu61
        obtain rfl := hr61
        refine HL_cons rfl ?_
        refine hel61 s55 (sliceLen hl42) rfl Try.underlying22 tI3 ?_
        try dsimp only [putL, setL, evL, getL]
        obtain ⟨x62, hx62, H⟩ := headE H
        refine HL_cons rfl ?_
        refine o_setF (vs := [.int .i64 x43]) (u := x43) hH 0 rfl rfl rfl rfl rfl tI3 hA61 hx62 (Ent.own (Ent.flat rfl)) ?_
        intro s62 hH'
        have hl62 := (st?_len hx62).trans hl42
        replace hH : Hp sb s F0 s62 [Ck.ol OI 3 A0p c0p x62] := hH'
        clear hH'
        try dsimp only [putL, setL, evL, getL]
        refine HL_nil ?_
        refine hK60 _ _ ?_
        refine HT_region ?_
        refine HL_cons rfl ?_
        refine o_move ?_
        try dsimp only [putL, setL, evL, getL]
        refine HL_cons rfl ?_
        refine o_bin rfl rfl rfl ?_
        try dsimp only [putL, setL, evL, getL]
        refine HL_cons rfl ?_
        refine o_assign ?_
        try dsimp only [putL, setL, evL, getL]
        refine HL_nil ?_
        refine hK59 _ _ ?_
        refine HT_region ?_
        refine HL_cons rfl ?_
        refine o_move ?_
        try dsimp only [putL, setL, evL, getL]
        refine HL_cons rfl ?_
        refine o_bin rfl rfl rfl ?_
        try dsimp only [putL, setL, evL, getL]
        refine HL_cons rfl ?_
        refine o_assign ?_
        try dsimp only [putL, setL, evL, getL]
        refine HL_nil ?_
        exact hK55 _ _ ⟨kf, Nat.lt_succ_self kf, x62, IntKind.i64.wrap (x43 + 1), IntKind.i64.wrap (x44 + 1), H, rfl, hH, hl62⟩
      · replace H := iteF hb58 H
        refine HT_false (congrArg Value.bool hb58) ?_
        refine HT_exit ?_
        exact hK4 _ _ ⟨x43, x42, H, rfl, hH, hl42⟩
  · rintro l' s63 ⟨x33, x34, H, hl, hH, hl34⟩
    generalize getL l' 5 = j5, getL l' 6 = j6, getL l' 7 = j7, getL l' 8 = j8, getL l' 9 = j9, getL l' 10 = j10, getL l' 11 = j11, getL l' 12 = j12, getL l' 13 = j13, getL l' 14 = j14, getL l' 15 = j15, getL l' 16 = j16, getL l' 17 = j17 at hl
    subst hl
    replace H := hG4 _ H
    try dsimp only at H
    refine hK2 _ _ ?_
    refine HT_seq_k ?_
    intro K64 hK64
    refine HT_region ?_
    refine HL_cons rfl ?_
    refine o_move ?_
    try dsimp only [putL, setL, evL, getL]
    refine HL_cons rfl ?_
    refine o_assign ?_
    try dsimp only [putL, setL, evL, getL]
    refine HL_nil ?_
    refine hK64 _ _ ?_
    refine HT_ret ?_
    obtain rfl := Option.some.inj (show some _ = some r from H)
    exact hQr _ _ [.int .i64 x33] ⟨rfl, trivial⟩ ⟨rfl, hH, hl34⟩
def laws_markScreen.f (p0_0 : Int) (p0_1 : Int) (p0_2 : List (Int)) (p0_3 : Int) (p0_4 : Int) (p1 : Int) : Option (Int × (List (Int))) := (laws_markIntS.f p0_2 p1).bind fun u4 => some (u4.1, u4.2)
def laws_markScreen.post (sb s : St) (F0 : Fp) (A0_2p : Option Addr) (c0_2p : Nat) (p0_2 : List (Int)) (r : Int × (List (Int))) : Value → St → Prop := fun v s' => v = .int .i64 r.1 ∧ Hp sb s F0 s' [Ck.ol OI 3 A0_2p c0_2p r.2] ∧ r.2.length = p0_2.length
set_option maxRecDepth 100000 in
set_option maxHeartbeats 4000000 in
theorem laws_markScreen.ok (sb s : St) (F0 : Fp) (p0_0 : Int) (p0_1 : Int) (A0_2p : Option Addr) (c0_2p : Nat) (p0_2 : List (Int)) (p0_3 : Int) (p0_4 : Int) (p1 : Int) (hH : Hp sb s F0 s [Ck.ol OI 3 A0_2p c0_2p p0_2]) (r : Int × (List (Int))) (H : laws_markScreen.f p0_0 p0_1 p0_2 p0_3 p0_4 p1 = some r) : GCall Try.prog 76 #[.agg #[.int .i64 p0_0, .int .i64 p0_1, .slice A0_2p p0_2.length c0_2p, .int .i64 p0_3, .int .i64 p0_4], .int .i64 p1] s (laws_markScreen.post sb s F0 A0_2p c0_2p p0_2 r) := by
  refine GCall_ofk [.tmp 4] [.agg #[.int .i64 p0_0, .int .i64 p0_1, .slice A0_2p p0_2.length c0_2p, .int .i64 p0_3, .int .i64 p0_4], .int .i64 p1, undef, undef, undef, undef, undef, undef, undef, undef] Try.func76 rfl rfl rfl ?_
  intro w Q hQr hQn hQp
  replace H := topE H
  unfold laws_markScreen.f at H
  refine HT_seq_k ?_
  intro K1 hK1
  refine HT_region ?_
  refine HL_cons rfl ?_
  refine o_boxH hH rfl ?_
  intro b2 s2 hH' hG
  replace hH : Hp sb s F0 s2 [Ck.ol OI 3 A0_2p c0_2p p0_2, Ck.ov b2 [.int .i64 p0_0, .int .i64 p0_1, .slice A0_2p p0_2.length c0_2p, .int .i64 p0_3, .int .i64 p0_4] 55] := hH'
  clear hH' hG
  try dsimp only [putL, setL, evL, getL]
  refine HL_cons rfl ?_
  refine o_assign ?_
  try dsimp only [putL, setL, evL, getL]
  refine HL_nil ?_
  refine hK1 _ _ ?_
  refine HT_seq_k ?_
  intro K3 hK3
  refine HT_region ?_
  refine HL_cons rfl ?_
  refine o_faddr' (ft := 22) (off := 2) rfl Try.underlying55 rfl tI22 (by decide) ?_
  try dsimp only [putL, setL, evL, getL]
  refine HL_cons rfl ?_
  refine o_load' rfl Try.underlying22 rfl (hH.hasv 1 rfl rfl) ?_
  try dsimp only [putL, setL, evL, getL]
  refine HL_cons rfl ?_
  refine o_move ?_
  try dsimp only [putL, setL, evL, getL]
  obtain ⟨u4, hu4, H⟩ := headE H
  obtain ⟨F1, hA, hB⟩ := hH.take [0] (by decide)
  dsimp only [addC, setC, rmC, selC, getC] at hA
  refine HL_cons rfl ?_
  refine o_call (args := #[.slice A0_2p p0_2.length c0_2p, .int .i64 p1]) Try.func19 rfl rfl rfl (laws_markIntS.ok sb s2 F1 A0_2p c0_2p p0_2 p1 hA _ hu4) ?_
  rintro _ s4 ⟨rfl, hD, hl5⟩
  replace hH := hB _ _ _ (Up.refl _ _ _) hD
  clear hD hA hB
  dsimp only [addC, setC, rmC, selC, getC] at hH
  try dsimp only [putL, setL, evL, getL]
  refine HL_cons rfl ?_
  refine o_assign ?_
  try dsimp only [putL, setL, evL, getL]
  refine HL_nil ?_
  refine hK3 _ _ ?_
  refine HT_seq_k ?_
  intro K6 hK6
  refine HT_region ?_
  refine HL_cons rfl ?_
  refine o_move ?_
  try dsimp only [putL, setL, evL, getL]
  refine HL_cons rfl ?_
  refine o_assign ?_
  try dsimp only [putL, setL, evL, getL]
  refine HL_nil ?_
  refine hK6 _ _ ?_
  refine HT_ret ?_
  obtain rfl := Option.some.inj (show some _ = some r from H)
  exact hQr _ _ [.int .i64 u4.1] ⟨rfl, trivial⟩ ⟨rfl, hH.sel [2] (by decide), hl5⟩
def laws_heldIntS.l1 (p0 : List (Int)) : Nat → Int → Int → Option (Lo Int Int)
  | 0, _, _ => none
  | kf + 1, x47, x48 => if (decide (x48 < (p0.length : Int))) = true then ((rd? p0 x48).bind fun u67 => if (u67 != x47) = true then ((some (-1)).bind fun z => some (Lo.ret z)) else (laws_heldIntS.l1 p0 kf (IntKind.i64.wrap (x47 + 1)) (IntKind.i64.wrap (x48 + 1)))) else (some (Lo.go x47))
def laws_heldIntS.f (p0 : List (Int)) (p1 : Int) : Option Int := (laws_heldIntS.l1 p0 ((((p0.length : Int)) - (0)).toNat + 2) p1 0).bind fun (o : Lo Int Int) => match o with | .go x37 => (some x37) | .ret z => some z
def laws_heldIntS.post (sb s : St) (F0 : Fp) (r : Int) : Value → St → Prop := fun v s' => v = .int .i64 r ∧ Hp sb s F0 s' []
set_option maxRecDepth 100000 in
set_option maxHeartbeats 4000000 in
theorem laws_heldIntS.ok (sb s : St) (F0 : Fp) (A0p : Option Addr) (c0p : Nat) (p0 : List (Int)) (p1 : Int) (HRp0 : Rd KI sb A0p c0p p0) (hH : Hp sb s F0 s []) (r : Int) (H : laws_heldIntS.f p0 p1 = some r) : GCall Try.prog 20 #[.slice A0p p0.length c0p, .int .i64 p1] s (laws_heldIntS.post sb s F0 r) := by
  refine GCall_ofk [.tmp 4] [.slice A0p p0.length c0p, .int .i64 p1, undef, undef, undef, undef, undef, undef, undef, undef, undef, undef, undef, undef, undef, undef, undef, undef, undef, undef, undef] Try.func20 rfl rfl rfl ?_
  intro w Q hQr hQn hQp
  replace H := topE H
  unfold laws_heldIntS.f at H
  refine HT_seq_k ?_
  intro K1 hK1
  refine HT_region ?_
  refine HL_cons rfl ?_
  refine o_assign ?_
  try dsimp only [putL, setL, evL, getL]
  refine HL_nil ?_
  refine hK1 _ _ ?_
  refine HT_seq_k ?_
  intro K2 hK2
  refine HT_seq_k ?_
  intro K3 hK3
  refine HT_region ?_
  refine HL_cons rfl ?_
  refine o_assign ?_
  try dsimp only [putL, setL, evL, getL]
  refine HL_nil ?_
  refine hK3 _ _ ?_
  refine joinH H fun G4 hG4 H => ?_
  refine HT_toK (fun l' s' => ∃ (x37 : Int), G4 (.go x37) = some r ∧ l' = [.slice A0p p0.length c0p, .int .i64 x37, undef, undef, getL l' 4, getL l' 5, getL l' 6, getL l' 7, getL l' 8, getL l' 9, getL l' 10, getL l' 11, getL l' 12, getL l' 13, getL l' 14, getL l' 15, getL l' 16, getL l' 17, getL l' 18, getL l' 19, undef] ∧ Hp sb s F0 s' []) ?_ ?_
  · intro K4 hK4
    refine HT_block ?_
    refine HT_loopK (fun kf l' s' => ∃ (x47 : Int) (x48 : Int), (laws_heldIntS.l1 p0 kf x47 x48).bind G4 = some r ∧ l' = [.slice A0p p0.length c0p, .int .i64 x47, undef, undef, getL l' 4, .int .i64 x48, getL l' 6, getL l' 7, getL l' 8, getL l' 9, getL l' 10, getL l' 11, getL l' 12, getL l' 13, getL l' 14, getL l' 15, getL l' 16, getL l' 17, getL l' 18, getL l' 19, undef] ∧ Hp sb s F0 s' []) ((((p0.length : Int)) - (0)).toNat + 2) ⟨p1, 0, H, rfl, hH⟩ ?_
    rintro kf l' s60 ⟨x47, x48, H, hl, hH⟩ K60 hK60
    generalize getL l' 4 = j4, getL l' 6 = j6, getL l' 7 = j7, getL l' 8 = j8, getL l' 9 = j9, getL l' 10 = j10, getL l' 11 = j11, getL l' 12 = j12, getL l' 13 = j13, getL l' 14 = j14, getL l' 15 = j15, getL l' 16 = j16, getL l' 17 = j17, getL l' 18 = j18, getL l' 19 = j19 at hl
    subst hl
    cases kf with
    | zero => simp [laws_heldIntS.l1] at H
    | succ kf =>
      rw [laws_heldIntS.l1] at H
      refine HT_seq_k ?_
      intro K61 hK61
      refine HT_seq_k ?_
      intro K62 hK62
      refine HT_region ?_
      refine HL_cons rfl ?_
      refine o_move ?_
      try dsimp only [putL, setL, evL, getL]
      refine HL_cons rfl ?_
      refine o_move ?_
      try dsimp only [putL, setL, evL, getL]
      refine HL_cons rfl ?_
      refine o_len rfl Try.underlying22 ?_
      try dsimp only [putL, setL, evL, getL]
      refine HL_cons rfl ?_
      refine o_bin rfl rfl rfl ?_
      try dsimp only [putL, setL, evL, getL]
      refine HL_nil ?_
      refine hK62 _ _ ?_
      rcases Bool.eq_false_or_eq_true (decide (x48 < (p0.length : Int))) with hb63 | hb63
      · replace H := iteT hb63 H
        refine HT_true (congrArg Value.bool hb63) ?_
        refine HT_skip ?_
        refine hK61 _ _ ?_
        refine HT_seq_k ?_
        intro K64 hK64
        refine HT_block ?_
        refine HT_seq_k ?_
        intro K65 hK65
        refine HT_seq_k ?_
        intro K66 hK66
        refine HT_region ?_
        refine HL_cons rfl ?_
        refine o_move ?_
        try dsimp only [putL, setL, evL, getL]
        refine HL_cons rfl ?_
        refine o_move ?_
        try dsimp only [putL, setL, evL, getL]
        obtain ⟨u67, hu67, H⟩ := headE H
        obtain ⟨b67, o67, cs67, hr67, hh67, hel67⟩ := Rd.elb HRp0 hu67
        obtain rfl := hr67
        refine HL_cons rfl ?_
        refine hel67 s60 rfl rfl Try.underlying22 tI3 ?_
        try dsimp only [putL, setL, evL, getL]
        refine HL_cons rfl ?_
        refine o_load' rfl Try.underlying3 rfl ((hh67 hH.bs.mono) 0 _ rfl) ?_
        try dsimp only [putL, setL, evL, getL]
        refine HL_cons rfl ?_
        refine o_move ?_
        try dsimp only [putL, setL, evL, getL]
        refine HL_cons rfl ?_
        refine o_bin rfl rfl rfl ?_
        try dsimp only [putL, setL, evL, getL]
        refine HL_nil ?_
        refine hK66 _ _ ?_
        rcases Bool.eq_false_or_eq_true (u67 != x47) with hb68 | hb68
        · replace H := iteT hb68 H
          refine HT_true (congrArg Value.bool hb68) ?_
          refine HT_seq_k ?_
          intro K69 hK69
          refine HT_region ?_
          refine HL_cons rfl ?_
          refine o_assign ?_
          try dsimp only [putL, setL, evL, getL]
          refine HL_nil ?_
          refine hK69 _ _ ?_
          refine HT_ret ?_
          replace H := escH (fun z hz => hG4 _ hz) H
          obtain rfl := Option.some.inj (show some _ = some r from H)
          exact hQr _ _ [.int .i64 (-1)] ⟨rfl, trivial⟩ ⟨rfl, hH⟩
        · replace H := iteF hb68 H
          refine HT_false (congrArg Value.bool hb68) ?_
          refine HT_skip ?_
          refine hK65 _ _ ?_
          refine HT_region ?_
          refine HL_cons rfl ?_
          refine o_move ?_
          try dsimp only [putL, setL, evL, getL]
          refine HL_cons rfl ?_
          refine o_bin rfl rfl rfl ?_
          try dsimp only [putL, setL, evL, getL]
          refine HL_cons rfl ?_
          refine o_assign ?_
          try dsimp only [putL, setL, evL, getL]
          refine HL_nil ?_
          refine hK64 _ _ ?_
          refine HT_region ?_
          refine HL_cons rfl ?_
          refine o_move ?_
          try dsimp only [putL, setL, evL, getL]
          refine HL_cons rfl ?_
          refine o_bin rfl rfl rfl ?_
          try dsimp only [putL, setL, evL, getL]
          refine HL_cons rfl ?_
          refine o_assign ?_
          try dsimp only [putL, setL, evL, getL]
          refine HL_nil ?_
          exact hK60 _ _ ⟨kf, Nat.lt_succ_self kf, IntKind.i64.wrap (x47 + 1), IntKind.i64.wrap (x48 + 1), H, rfl, hH⟩
      · replace H := iteF hb63 H
        refine HT_false (congrArg Value.bool hb63) ?_
        refine HT_exit ?_
        exact hK4 _ _ ⟨x47, H, rfl, hH⟩
  · rintro l' s70 ⟨x37, H, hl, hH⟩
    generalize getL l' 4 = j4, getL l' 5 = j5, getL l' 6 = j6, getL l' 7 = j7, getL l' 8 = j8, getL l' 9 = j9, getL l' 10 = j10, getL l' 11 = j11, getL l' 12 = j12, getL l' 13 = j13, getL l' 14 = j14, getL l' 15 = j15, getL l' 16 = j16, getL l' 17 = j17, getL l' 18 = j18, getL l' 19 = j19 at hl
    subst hl
    replace H := hG4 _ H
    try dsimp only at H
    refine hK2 _ _ ?_
    refine HT_seq_k ?_
    intro K71 hK71
    refine HT_region ?_
    refine HL_cons rfl ?_
    refine o_move ?_
    try dsimp only [putL, setL, evL, getL]
    refine HL_cons rfl ?_
    refine o_assign ?_
    try dsimp only [putL, setL, evL, getL]
    refine HL_nil ?_
    refine hK71 _ _ ?_
    refine HT_ret ?_
    obtain rfl := Option.some.inj (show some _ = some r from H)
    exact hQr _ _ [.int .i64 x37] ⟨rfl, trivial⟩ ⟨rfl, hH⟩
def laws_heldScreen.f (p0_0 : Int) (p0_1 : Int) (p0_2 : List (Int)) (p0_3 : Int) (p0_4 : Int) (p1 : Int) : Option Int := (laws_heldIntS.f p0_2 p1).bind fun u4 => if (decide (u4 < 0)) = true then (some (-1)) else (some u4)
def laws_heldScreen.post (sb s : St) (F0 : Fp) (r : Int) : Value → St → Prop := fun v s' => v = .int .i64 r ∧ Hp sb s F0 s' []
set_option maxRecDepth 100000 in
set_option maxHeartbeats 4000000 in
theorem laws_heldScreen.ok (sb s : St) (F0 : Fp) (p0_0 : Int) (p0_1 : Int) (A0_2p : Option Addr) (c0_2p : Nat) (p0_2 : List (Int)) (p0_3 : Int) (p0_4 : Int) (p1 : Int) (HRp0_2 : Rd KI sb A0_2p c0_2p p0_2) (hH : Hp sb s F0 s []) (r : Int) (H : laws_heldScreen.f p0_0 p0_1 p0_2 p0_3 p0_4 p1 = some r) : GCall Try.prog 77 #[.agg #[.int .i64 p0_0, .int .i64 p0_1, .slice A0_2p p0_2.length c0_2p, .int .i64 p0_3, .int .i64 p0_4], .int .i64 p1] s (laws_heldScreen.post sb s F0 r) := by
  refine GCall_ofk [.tmp 4] [.agg #[.int .i64 p0_0, .int .i64 p0_1, .slice A0_2p p0_2.length c0_2p, .int .i64 p0_3, .int .i64 p0_4], .int .i64 p1, undef, undef, undef, undef, undef, undef, undef, undef, undef, undef] Try.func77 rfl rfl rfl ?_
  intro w Q hQr hQn hQp
  replace H := topE H
  unfold laws_heldScreen.f at H
  refine HT_seq_k ?_
  intro K1 hK1
  refine HT_region ?_
  refine HL_cons rfl ?_
  refine o_boxH hH rfl ?_
  intro b2 s2 hH' hG
  replace hH : Hp sb s F0 s2 [Ck.ov b2 [.int .i64 p0_0, .int .i64 p0_1, .slice A0_2p p0_2.length c0_2p, .int .i64 p0_3, .int .i64 p0_4] 55] := hH'
  clear hH' hG
  try dsimp only [putL, setL, evL, getL]
  refine HL_cons rfl ?_
  refine o_assign ?_
  try dsimp only [putL, setL, evL, getL]
  refine HL_nil ?_
  refine hK1 _ _ ?_
  refine HT_seq_k ?_
  intro K3 hK3
  refine HT_region ?_
  refine HL_cons rfl ?_
  refine o_faddr' (ft := 22) (off := 2) rfl Try.underlying55 rfl tI22 (by decide) ?_
  try dsimp only [putL, setL, evL, getL]
  refine HL_cons rfl ?_
  refine o_load' rfl Try.underlying22 rfl (hH.hasv 0 rfl rfl) ?_
  try dsimp only [putL, setL, evL, getL]
  refine HL_cons rfl ?_
  refine o_move ?_
  try dsimp only [putL, setL, evL, getL]
  obtain ⟨u4, hu4, H⟩ := headE H
  refine HL_cons rfl ?_
  refine o_call (args := #[.slice A0_2p p0_2.length c0_2p, .int .i64 p1]) Try.func20 rfl rfl rfl (laws_heldIntS.ok sb s2 no A0_2p c0_2p p0_2 p1 HRp0_2 (Hp.own hH.bs) _ hu4) ?_
  rintro _ s4 ⟨rfl, hD⟩
  replace hH := hH.back0 hD (Up.refl _ _ _)
  clear hD
  dsimp only [addC, setC, rmC, selC, getC] at hH
  try dsimp only [putL, setL, evL, getL]
  refine HL_cons rfl ?_
  refine o_assign ?_
  try dsimp only [putL, setL, evL, getL]
  refine HL_nil ?_
  refine hK3 _ _ ?_
  refine HT_seq_k ?_
  intro K5 hK5
  refine HT_seq_k ?_
  intro K6 hK6
  refine HT_region ?_
  refine HL_cons rfl ?_
  refine o_move ?_
  try dsimp only [putL, setL, evL, getL]
  refine HL_cons rfl ?_
  refine o_bin rfl rfl rfl ?_
  try dsimp only [putL, setL, evL, getL]
  refine HL_nil ?_
  refine hK6 _ _ ?_
  rcases Bool.eq_false_or_eq_true (decide (u4 < 0)) with hb7 | hb7
  · replace H := iteT hb7 H
    refine HT_true (congrArg Value.bool hb7) ?_
    refine HT_seq_k ?_
    intro K8 hK8
    refine HT_region ?_
    refine HL_cons rfl ?_
    refine o_assign ?_
    try dsimp only [putL, setL, evL, getL]
    refine HL_nil ?_
    refine hK8 _ _ ?_
    refine HT_ret ?_
    obtain rfl := Option.some.inj (show some _ = some r from H)
    exact hQr _ _ [.int .i64 (-1)] ⟨rfl, trivial⟩ ⟨rfl, hH.sel [] (by decide)⟩
  · replace H := iteF hb7 H
    refine HT_false (congrArg Value.bool hb7) ?_
    refine HT_skip ?_
    refine hK5 _ _ ?_
    refine HT_seq_k ?_
    intro K9 hK9
    refine HT_region ?_
    refine HL_cons rfl ?_
    refine o_move ?_
    try dsimp only [putL, setL, evL, getL]
    refine HL_cons rfl ?_
    refine o_assign ?_
    try dsimp only [putL, setL, evL, getL]
    refine HL_nil ?_
    refine hK9 _ _ ?_
    refine HT_ret ?_
    obtain rfl := Option.some.inj (show some _ = some r from H)
    exact hQr _ _ [.int .i64 u4] ⟨rfl, trivial⟩ ⟨rfl, hH.sel [] (by decide)⟩
def laws_FnExactPutRunes.f (p0_0 : Int) (p0_1 : Int) (p0_2 : List (Int)) (p0_3 : Int) (p0_4 : Int) (p1 : List (Int)) : Option Bool := if (decide ((p1.length : Int) > 1048576)) = true then (some true) else ((laws_szScreen.f p0_0 p0_1 p0_2 p0_3 p0_4 1048576).bind fun u9 => if (decide (u9 < 0)) = true then (some true) else ((laws_toScreen.f p0_0 p0_1 p0_2 p0_3 p0_4).bind fun u15 => (laws_toIntS.f p1).bind fun u17 => (spec_PutRunes.f u15.1 u15.2.1 u15.2.2.1 u15.2.2.2.1 u15.2.2.2.2 u17).bind fun u19 => (laws_toScreen.f p0_0 p0_1 p0_2 p0_3 p0_4).bind fun u24 => (laws_toIntS.f p1).bind fun u29 => (impl_PutRunes.f u24.1 u24.2.1 u24.2.2.1 u24.2.2.2.1 u24.2.2.2.2 u29).bind fun u32 => ((laws_eqScreen.f u32.1 u32.2.1 u32.2.2.1 u32.2.2.2.1 u32.2.2.2.2.1 u19.1 u19.2.1 u19.2.2.1 u19.2.2.2.1 u19.2.2.2.2.1).bind fun u51 => if (!u51) = true then (some true) else (some (u32.2.2.2.2.2 != u19.2.2.2.2.2))).bind fun (o : Bool) => match o with | x50 => (if x50 = true then (some false) else ((laws_toScreen.f p0_0 p0_1 p0_2 p0_3 p0_4).bind fun u58 => (laws_eqScreen.f u24.1 u24.2.1 u24.2.2.1 u24.2.2.2.1 u24.2.2.2.2 u58.1 u58.2.1 u58.2.2.1 u58.2.2.2.1 u58.2.2.2.2).bind fun u60 => if (!u60) = true then (some false) else ((laws_toIntS.f p1).bind fun u65 => (laws_eqIntS.f u29 u65).bind fun u67 => if (!u67) = true then (some false) else ((laws_markScreen.f u24.1 u24.2.1 u24.2.2.1 u24.2.2.2.1 u24.2.2.2.2 1).bind fun u72 => (laws_markIntS.f u29 u72.1).bind fun u75 => (if (decide (u75.1 < 0)) = true then (some true) else ((laws_eqScreen.f u32.1 u32.2.1 u32.2.2.1 u32.2.2.2.1 u32.2.2.2.2.1 u19.1 u19.2.1 u19.2.2.1 u19.2.2.2.1 u19.2.2.2.2.1).bind fun u96 => if (!u96) = true then (some true) else (some (u32.2.2.2.2.2 != u19.2.2.2.2.2)))).bind fun (o : Bool) => match o with | x94 => (if x94 = true then (some false) else ((laws_markScreen.f u32.1 u32.2.1 u32.2.2.1 u32.2.2.2.1 u32.2.2.2.2.1 1).bind fun u103 => (laws_heldScreen.f u32.1 u32.2.1 u103.2 u32.2.2.2.1 u32.2.2.2.2.1 1).bind fun u107 => if (decide (u107 < 0)) = true then (some false) else (if (u107 != u103.1) = true then (some false) else ((laws_toScreen.f p0_0 p0_1 p0_2 p0_3 p0_4).bind fun u117 => (laws_toIntS.f p1).bind fun u119 => (impl_PutRunes.f u117.1 u117.2.1 u117.2.2.1 u117.2.2.2.1 u117.2.2.2.2 u119).bind fun u121 => ((laws_eqScreen.f u121.1 u121.2.1 u121.2.2.1 u121.2.2.2.1 u121.2.2.2.2.1 u19.1 u19.2.1 u19.2.2.1 u19.2.2.2.1 u19.2.2.2.2.1).bind fun u140 => if (!u140) = true then (some true) else (some (u121.2.2.2.2.2 != u19.2.2.2.2.2))).bind fun (o : Bool) => match o with | x139 => (if x139 = true then (some false) else ((laws_heldScreen.f u32.1 u32.2.1 u103.2 u32.2.2.2.1 u32.2.2.2.2.1 1).bind fun u147 => if (decide (u147 < 0)) = true then (some false) else (if (u147 != u103.1) = true then (some false) else (some true))))))))))))))
def laws_FnExactPutRunes.post (sb s : St) (F0 : Fp) (r : Bool) : Value → St → Prop := fun v s' => v = .bool r ∧ Hp sb s F0 s' []
set_option maxRecDepth 100000 in
set_option maxHeartbeats 4000000 in
theorem laws_FnExactPutRunes.ok (sb s : St) (F0 : Fp) (p0_0 : Int) (p0_1 : Int) (A0_2p : Option Addr) (c0_2p : Nat) (p0_2 : List (Int)) (p0_3 : Int) (p0_4 : Int) (A1p : Option Addr) (c1p : Nat) (p1 : List (Int)) (HRp0_2 : Rd KI sb A0_2p c0_2p p0_2) (HRp1 : Rd KI sb A1p c1p p1) (hH : Hp sb s F0 s []) (r : Bool) (H : laws_FnExactPutRunes.f p0_0 p0_1 p0_2 p0_3 p0_4 p1 = some r) : GCall Try.prog 14 #[.agg #[.int .i64 p0_0, .int .i64 p0_1, .slice A0_2p p0_2.length c0_2p, .int .i64 p0_3, .int .i64 p0_4], .slice A1p p1.length c1p] s (laws_FnExactPutRunes.post sb s F0 r) := by
  refine GCall_ofk [.tmp 4] [.agg #[.int .i64 p0_0, .int .i64 p0_1, .slice A0_2p p0_2.length c0_2p, .int .i64 p0_3, .int .i64 p0_4], .slice A1p p1.length c1p, undef, undef, undef, undef, undef, undef, undef, undef, undef, undef, undef, undef, undef, undef, undef, undef, undef, undef, undef, undef, undef, undef, undef, undef, undef, undef, undef, undef, undef, undef, undef, undef, undef, undef, undef, undef, undef, undef, undef, undef, undef, undef, undef, undef, undef, undef, undef, undef, undef, undef, undef, undef, undef, undef, undef, undef, undef, undef, undef, undef, undef, undef, undef, undef, undef, undef, undef, undef, undef, undef, undef, undef, undef, undef, undef, undef, undef, undef, undef, undef, undef, undef, undef, undef, undef, undef, undef, undef, undef, undef, undef, undef, undef, undef, undef, undef, undef, undef, undef, undef, undef, undef, undef, undef, undef, undef, undef, undef, undef, undef, undef, undef, undef, undef, undef] Try.func14 rfl rfl rfl ?_
  intro w Q hQr hQn hQp
  replace H := topE H
  unfold laws_FnExactPutRunes.f at H
  refine HT_seq_k ?_
  intro K1 hK1
  refine HT_region ?_
  refine HL_cons rfl ?_
  refine o_boxH hH rfl ?_
  intro b2 s2 hH' hG
  replace hH : Hp sb s F0 s2 [Ck.ov b2 [.int .i64 p0_0, .int .i64 p0_1, .slice A0_2p p0_2.length c0_2p, .int .i64 p0_3, .int .i64 p0_4] 51] := hH'
  clear hH' hG
  try dsimp only [putL, setL, evL, getL]
  refine HL_cons rfl ?_
  refine o_assign ?_
  try dsimp only [putL, setL, evL, getL]
  refine HL_nil ?_
  refine hK1 _ _ ?_
  refine HT_seq_k ?_
  intro K3 hK3
  refine HT_seq_k ?_
  intro K4 hK4
  refine HT_region ?_
  refine HL_cons rfl ?_
  refine o_move ?_
  try dsimp only [putL, setL, evL, getL]
  refine HL_cons rfl ?_
  refine o_len rfl Try.underlying22 ?_
  try dsimp only [putL, setL, evL, getL]
  refine HL_cons rfl ?_
  refine o_bin rfl rfl rfl ?_
  try dsimp only [putL, setL, evL, getL]
  refine HL_nil ?_
  refine hK4 _ _ ?_
  rcases Bool.eq_false_or_eq_true (decide ((p1.length : Int) > 1048576)) with hb5 | hb5
  · replace H := iteT hb5 H
    refine HT_true (congrArg Value.bool hb5) ?_
    refine HT_seq_k ?_
    intro K6 hK6
    refine HT_region ?_
    refine HL_cons rfl ?_
    refine o_assign ?_
    try dsimp only [putL, setL, evL, getL]
    refine HL_nil ?_
    refine hK6 _ _ ?_
    refine HT_ret ?_
    obtain rfl := Option.some.inj (show some _ = some r from H)
    exact hQr _ _ [.bool true] ⟨rfl, trivial⟩ ⟨rfl, hH.sel [] (by decide)⟩
  · replace H := iteF hb5 H
    refine HT_false (congrArg Value.bool hb5) ?_
    refine HT_skip ?_
    refine hK3 _ _ ?_
    refine HT_seq_k ?_
    intro K7 hK7
    refine HT_region ?_
    refine HL_cons rfl ?_
    refine o_assign ?_
    try dsimp only [putL, setL, evL, getL]
    refine HL_nil ?_
    refine hK7 _ _ ?_
    refine HT_seq_k ?_
    intro K8 hK8
    refine HT_region ?_
    refine HL_cons rfl ?_
    refine o_loads' [.int .i64 p0_0, .int .i64 p0_1, .slice A0_2p p0_2.length c0_2p, .int .i64 p0_3, .int .i64 p0_4] rfl Try.underlying51 rfl tI51 rfl (hH.partv 0 rfl (0) [.int .i64 p0_0, .int .i64 p0_1, .slice A0_2p p0_2.length c0_2p, .int .i64 p0_3, .int .i64 p0_4] rfl) ?_
    try dsimp only [putL, setL, evL, getL]
    refine HL_cons rfl ?_
    refine o_move ?_
    try dsimp only [putL, setL, evL, getL]
    obtain ⟨u9, hu9, H⟩ := headE H
    refine HL_cons rfl ?_
    refine o_call (args := #[.agg #[.int .i64 p0_0, .int .i64 p0_1, .slice A0_2p p0_2.length c0_2p, .int .i64 p0_3, .int .i64 p0_4], .int .i64 1048576]) Try.func39 rfl rfl rfl (laws_szScreen.ok sb s2 no p0_0 p0_1 A0_2p c0_2p p0_2 p0_3 p0_4 1048576 HRp0_2 (Hp.own hH.bs) _ hu9) ?_
    rintro _ s9 ⟨rfl, hD⟩
    replace hH := hH.back0 hD (Up.refl _ _ _)
    clear hD
    dsimp only [addC, setC, rmC, selC, getC] at hH
    try dsimp only [putL, setL, evL, getL]
    refine HL_cons rfl ?_
    refine o_assign ?_
    try dsimp only [putL, setL, evL, getL]
    refine HL_nil ?_
    refine hK8 _ _ ?_
    refine HT_seq_k ?_
    intro K10 hK10
    refine HT_seq_k ?_
    intro K11 hK11
    refine HT_region ?_
    refine HL_cons rfl ?_
    refine o_move ?_
    try dsimp only [putL, setL, evL, getL]
    refine HL_cons rfl ?_
    refine o_bin rfl rfl rfl ?_
    try dsimp only [putL, setL, evL, getL]
    refine HL_nil ?_
    refine hK11 _ _ ?_
    rcases Bool.eq_false_or_eq_true (decide (u9 < 0)) with hb12 | hb12
    · replace H := iteT hb12 H
      refine HT_true (congrArg Value.bool hb12) ?_
      refine HT_seq_k ?_
      intro K13 hK13
      refine HT_region ?_
      refine HL_cons rfl ?_
      refine o_assign ?_
      try dsimp only [putL, setL, evL, getL]
      refine HL_nil ?_
      refine hK13 _ _ ?_
      refine HT_ret ?_
      obtain rfl := Option.some.inj (show some _ = some r from H)
      exact hQr _ _ [.bool true] ⟨rfl, trivial⟩ ⟨rfl, hH.sel [] (by decide)⟩
    · replace H := iteF hb12 H
      refine HT_false (congrArg Value.bool hb12) ?_
      refine HT_skip ?_
      refine hK10 _ _ ?_
      refine HT_seq_k ?_
      intro K14 hK14
      refine HT_region ?_
      refine HL_cons rfl ?_
      refine o_loads' [.int .i64 p0_0, .int .i64 p0_1, .slice A0_2p p0_2.length c0_2p, .int .i64 p0_3, .int .i64 p0_4] rfl Try.underlying51 rfl tI51 rfl (hH.partv 0 rfl (0) [.int .i64 p0_0, .int .i64 p0_1, .slice A0_2p p0_2.length c0_2p, .int .i64 p0_3, .int .i64 p0_4] rfl) ?_
      try dsimp only [putL, setL, evL, getL]
      obtain ⟨u15, hu15, H⟩ := headE H
      refine HL_cons rfl ?_
      refine o_call (args := #[.agg #[.int .i64 p0_0, .int .i64 p0_1, .slice A0_2p p0_2.length c0_2p, .int .i64 p0_3, .int .i64 p0_4]]) Try.func41 rfl rfl rfl (laws_toScreen.ok sb s9 no p0_0 p0_1 A0_2p c0_2p p0_2 p0_3 p0_4 HRp0_2 (Hp.own hH.bs) _ hu15) ?_
      rintro _ s15 ⟨A16, c16, rfl, hD⟩
      replace hH := hH.back0 hD (Up.refl _ _ _)
      clear hD
      dsimp only [addC, setC, rmC, selC, getC] at hH
      try dsimp only [putL, setL, evL, getL]
      refine HL_cons rfl ?_
      refine o_move ?_
      try dsimp only [putL, setL, evL, getL]
      obtain ⟨u17, hu17, H⟩ := headE H
      refine HL_cons rfl ?_
      refine o_call (args := #[.slice A1p p1.length c1p]) Try.func16 rfl rfl rfl (laws_toIntS.ok sb s15 no A1p c1p p1 HRp1 (Hp.own hH.bs) _ hu17) ?_
      rintro _ s17 ⟨A18, c18, rfl, hD⟩
      replace hH := hH.back0 hD (Up.refl _ _ _)
      clear hD
      dsimp only [addC, setC, rmC, selC, getC] at hH
      try dsimp only [putL, setL, evL, getL]
      obtain ⟨u19, hu19, H⟩ := headE H
      obtain ⟨F1, sx, hx, hC, hA, hB⟩ := hH.takeT [1] (by decide)
      dsimp only [addC, setC, rmC, selC, getC] at hA
      refine HL_cons rfl ?_
      refine o_call (args := #[.agg #[.int .i64 u15.1, .int .i64 u15.2.1, .slice A16 u15.2.2.1.length c16, .int .i64 u15.2.2.2.1, .int .i64 u15.2.2.2.2], .slice A18 u17.length c18]) Try.func78 rfl rfl rfl (spec_PutRunes.ok sx s17 F1 u15.1 u15.2.1 A16 c16 u15.2.2.1 u15.2.2.2.1 u15.2.2.2.2 A18 c18 u17 (Ck.rdT hx (hC 2 (by decide)) rfl) hA _ hu19) ?_
      rintro _ s19 ⟨A20, c20, rfl, hD⟩
      replace hH := hB _ _ _ inferInstance hD
      clear hD hA hB hx hC
      dsimp only [addC, setC, rmC, selC, getC] at hH
      try dsimp only [putL, setL, evL, getL]
      refine HL_cons rfl ?_
      refine o_move ?_
      try dsimp only [putL, setL, evL, getL]
      refine HL_cons rfl ?_
      refine o_extract rfl rfl ?_
      try dsimp only [putL, setL, evL, getL]
      refine HL_cons rfl ?_
      refine o_extract rfl rfl ?_
      try dsimp only [putL, setL, evL, getL]
      refine HL_cons rfl ?_
      refine o_allocH hH tI55 ?_
      intro b21 s21 hH' hG
      replace hH : Hp sb s F0 s21 [Ck.ov b2 [.int .i64 p0_0, .int .i64 p0_1, .slice A0_2p p0_2.length c0_2p, .int .i64 p0_3, .int .i64 p0_4] 51, Ck.emp, Ck.ol OI 3 A18 c18 u17, Ck.ol OI 3 A20 c20 u19.2.2.1, Ck.ov b21 [.int .i64 0, .int .i64 0, .slice none 0 0, .int .i64 0, .int .i64 0] 55] := hH'
      clear hH' hG
      try dsimp only [putL, setL, evL, getL]
      refine HL_cons rfl ?_
      refine o_stvH (vs := [.int .i64 u19.1, .int .i64 u19.2.1, .slice A20 u19.2.2.1.length c20, .int .i64 u19.2.2.2.1, .int .i64 u19.2.2.2.2.1]) (us' := [.int .i64 u19.1, .int .i64 u19.2.1, .slice A20 u19.2.2.1.length c20, .int .i64 u19.2.2.2.1, .int .i64 u19.2.2.2.2.1]) hH 4 rfl rfl rfl rfl rfl tI55 rfl (List.cons_ne_nil _ _) rfl rfl rfl ?_
      intro s22 hH'
      replace hH : Hp sb s F0 s22 [Ck.ov b2 [.int .i64 p0_0, .int .i64 p0_1, .slice A0_2p p0_2.length c0_2p, .int .i64 p0_3, .int .i64 p0_4] 51, Ck.emp, Ck.ol OI 3 A18 c18 u17, Ck.ol OI 3 A20 c20 u19.2.2.1, Ck.ov b21 [.int .i64 u19.1, .int .i64 u19.2.1, .slice A20 u19.2.2.1.length c20, .int .i64 u19.2.2.2.1, .int .i64 u19.2.2.2.2.1] 55] := hH'
      clear hH'
      try dsimp only [putL, setL, evL, getL]
      refine HL_cons rfl ?_
      refine o_assign ?_
      try dsimp only [putL, setL, evL, getL]
      refine HL_nil ?_
      refine hK14 _ _ ?_
      refine HT_seq_k ?_
      intro K23 hK23
      refine HT_region ?_
      refine HL_cons rfl ?_
      refine o_loads' [.int .i64 p0_0, .int .i64 p0_1, .slice A0_2p p0_2.length c0_2p, .int .i64 p0_3, .int .i64 p0_4] rfl Try.underlying51 rfl tI51 rfl (hH.partv 0 rfl (0) [.int .i64 p0_0, .int .i64 p0_1, .slice A0_2p p0_2.length c0_2p, .int .i64 p0_3, .int .i64 p0_4] rfl) ?_
      try dsimp only [putL, setL, evL, getL]
      obtain ⟨u24, hu24, H⟩ := headE H
      refine HL_cons rfl ?_
      refine o_call (args := #[.agg #[.int .i64 p0_0, .int .i64 p0_1, .slice A0_2p p0_2.length c0_2p, .int .i64 p0_3, .int .i64 p0_4]]) Try.func41 rfl rfl rfl (laws_toScreen.ok sb s22 no p0_0 p0_1 A0_2p c0_2p p0_2 p0_3 p0_4 HRp0_2 (Hp.own hH.bs) _ hu24) ?_
      rintro _ s24 ⟨A25, c25, rfl, hD⟩
      replace hH := hH.back0 hD (Up.refl _ _ _)
      clear hD
      dsimp only [addC, setC, rmC, selC, getC] at hH
      try dsimp only [putL, setL, evL, getL]
      refine HL_cons rfl ?_
      refine o_allocH hH tI55 ?_
      intro b26 s26 hH' hG
      replace hH : Hp sb s F0 s26 [Ck.ov b2 [.int .i64 p0_0, .int .i64 p0_1, .slice A0_2p p0_2.length c0_2p, .int .i64 p0_3, .int .i64 p0_4] 51, Ck.emp, Ck.ol OI 3 A18 c18 u17, Ck.ol OI 3 A20 c20 u19.2.2.1, Ck.ov b21 [.int .i64 u19.1, .int .i64 u19.2.1, .slice A20 u19.2.2.1.length c20, .int .i64 u19.2.2.2.1, .int .i64 u19.2.2.2.2.1] 55, Ck.ol OI 3 A25 c25 u24.2.2.1, Ck.ov b26 [.int .i64 0, .int .i64 0, .slice none 0 0, .int .i64 0, .int .i64 0] 55] := hH'
      clear hH' hG
      try dsimp only [putL, setL, evL, getL]
      refine HL_cons rfl ?_
      refine o_stvH (vs := [.int .i64 u24.1, .int .i64 u24.2.1, .slice A25 u24.2.2.1.length c25, .int .i64 u24.2.2.2.1, .int .i64 u24.2.2.2.2]) (us' := [.int .i64 u24.1, .int .i64 u24.2.1, .slice A25 u24.2.2.1.length c25, .int .i64 u24.2.2.2.1, .int .i64 u24.2.2.2.2]) hH 6 rfl rfl rfl rfl rfl tI55 rfl (List.cons_ne_nil _ _) rfl rfl rfl ?_
      intro s27 hH'
      replace hH : Hp sb s F0 s27 [Ck.ov b2 [.int .i64 p0_0, .int .i64 p0_1, .slice A0_2p p0_2.length c0_2p, .int .i64 p0_3, .int .i64 p0_4] 51, Ck.emp, Ck.ol OI 3 A18 c18 u17, Ck.ol OI 3 A20 c20 u19.2.2.1, Ck.ov b21 [.int .i64 u19.1, .int .i64 u19.2.1, .slice A20 u19.2.2.1.length c20, .int .i64 u19.2.2.2.1, .int .i64 u19.2.2.2.2.1] 55, Ck.ol OI 3 A25 c25 u24.2.2.1, Ck.ov b26 [.int .i64 u24.1, .int .i64 u24.2.1, .slice A25 u24.2.2.1.length c25, .int .i64 u24.2.2.2.1, .int .i64 u24.2.2.2.2] 55] := hH'
      clear hH'
      try dsimp only [putL, setL, evL, getL]
      refine HL_nil ?_
      refine hK23 _ _ ?_
      refine HT_seq_k ?_
      intro K28 hK28
      refine HT_region ?_
      refine HL_cons rfl ?_
      refine o_move ?_
      try dsimp only [putL, setL, evL, getL]
      obtain ⟨u29, hu29, H⟩ := headE H
      refine HL_cons rfl ?_
      refine o_call (args := #[.slice A1p p1.length c1p]) Try.func16 rfl rfl rfl (laws_toIntS.ok sb s27 no A1p c1p p1 HRp1 (Hp.own hH.bs) _ hu29) ?_
      rintro _ s29 ⟨A30, c30, rfl, hD⟩
      replace hH := hH.back0 hD (Up.refl _ _ _)
      clear hD
      dsimp only [addC, setC, rmC, selC, getC] at hH
      try dsimp only [putL, setL, evL, getL]
      refine HL_cons rfl ?_
      refine o_assign ?_
      try dsimp only [putL, setL, evL, getL]
      refine HL_nil ?_
      refine hK28 _ _ ?_
      refine HT_seq_k ?_
      intro K31 hK31
      refine HT_region ?_
      refine HL_cons rfl ?_
      refine o_loads' [.int .i64 u24.1, .int .i64 u24.2.1, .slice A25 u24.2.2.1.length c25, .int .i64 u24.2.2.2.1, .int .i64 u24.2.2.2.2] rfl Try.underlying55 rfl tI55 rfl (hH.partv 6 rfl (0) [.int .i64 u24.1, .int .i64 u24.2.1, .slice A25 u24.2.2.1.length c25, .int .i64 u24.2.2.2.1, .int .i64 u24.2.2.2.2] rfl) ?_
      try dsimp only [putL, setL, evL, getL]
      refine HL_cons rfl ?_
      refine o_move ?_
      try dsimp only [putL, setL, evL, getL]
      obtain ⟨u32, hu32, H⟩ := headE H
      refine HL_cons rfl ?_
      refine o_call (args := #[.agg #[.int .i64 u24.1, .int .i64 u24.2.1, .slice A25 u24.2.2.1.length c25, .int .i64 u24.2.2.2.1, .int .i64 u24.2.2.2.2], .slice A30 u29.length c30]) Try.func79 rfl rfl rfl (impl_PutRunes.ok s29 s29 no u24.1 u24.2.1 A25 c25 u24.2.2.1 u24.2.2.2.1 u24.2.2.2.2 A30 c30 u29 (hH.rd 5 rfl) (hH.rd 7 rfl) (Hp.own (Bs.refl s29)) _ hu32) ?_
      rintro _ s32 ⟨A33, c33, rfl, hD⟩
      replace hH := hH.back0T hD
      clear hD
      dsimp only [addC, setC, rmC, selC, getC] at hH
      try dsimp only [putL, setL, evL, getL]
      refine HL_cons rfl ?_
      refine o_move ?_
      try dsimp only [putL, setL, evL, getL]
      refine HL_cons rfl ?_
      refine o_extract rfl rfl ?_
      try dsimp only [putL, setL, evL, getL]
      refine HL_cons rfl ?_
      refine o_extract rfl rfl ?_
      try dsimp only [putL, setL, evL, getL]
      refine HL_cons rfl ?_
      refine o_allocH hH tI55 ?_
      intro b34 s34 hH' hG
      replace hH : Hp sb s F0 s34 [Ck.ov b2 [.int .i64 p0_0, .int .i64 p0_1, .slice A0_2p p0_2.length c0_2p, .int .i64 p0_3, .int .i64 p0_4] 51, Ck.emp, Ck.ol OI 3 A18 c18 u17, Ck.ol OI 3 A20 c20 u19.2.2.1, Ck.ov b21 [.int .i64 u19.1, .int .i64 u19.2.1, .slice A20 u19.2.2.1.length c20, .int .i64 u19.2.2.2.1, .int .i64 u19.2.2.2.2.1] 55, Ck.ol OI 3 A25 c25 u24.2.2.1, Ck.ov b26 [.int .i64 u24.1, .int .i64 u24.2.1, .slice A25 u24.2.2.1.length c25, .int .i64 u24.2.2.2.1, .int .i64 u24.2.2.2.2] 55, Ck.ol OI 3 A30 c30 u29, Ck.ol OI 3 A33 c33 u32.2.2.1, Ck.ov b34 [.int .i64 0, .int .i64 0, .slice none 0 0, .int .i64 0, .int .i64 0] 55] := hH'
      clear hH' hG
      try dsimp only [putL, setL, evL, getL]
      refine HL_cons rfl ?_
      refine o_stvH (vs := [.int .i64 u32.1, .int .i64 u32.2.1, .slice A33 u32.2.2.1.length c33, .int .i64 u32.2.2.2.1, .int .i64 u32.2.2.2.2.1]) (us' := [.int .i64 u32.1, .int .i64 u32.2.1, .slice A33 u32.2.2.1.length c33, .int .i64 u32.2.2.2.1, .int .i64 u32.2.2.2.2.1]) hH 9 rfl rfl rfl rfl rfl tI55 rfl (List.cons_ne_nil _ _) rfl rfl rfl ?_
      intro s35 hH'
      replace hH : Hp sb s F0 s35 [Ck.ov b2 [.int .i64 p0_0, .int .i64 p0_1, .slice A0_2p p0_2.length c0_2p, .int .i64 p0_3, .int .i64 p0_4] 51, Ck.emp, Ck.ol OI 3 A18 c18 u17, Ck.ol OI 3 A20 c20 u19.2.2.1, Ck.ov b21 [.int .i64 u19.1, .int .i64 u19.2.1, .slice A20 u19.2.2.1.length c20, .int .i64 u19.2.2.2.1, .int .i64 u19.2.2.2.2.1] 55, Ck.ol OI 3 A25 c25 u24.2.2.1, Ck.ov b26 [.int .i64 u24.1, .int .i64 u24.2.1, .slice A25 u24.2.2.1.length c25, .int .i64 u24.2.2.2.1, .int .i64 u24.2.2.2.2] 55, Ck.ol OI 3 A30 c30 u29, Ck.ol OI 3 A33 c33 u32.2.2.1, Ck.ov b34 [.int .i64 u32.1, .int .i64 u32.2.1, .slice A33 u32.2.2.1.length c33, .int .i64 u32.2.2.2.1, .int .i64 u32.2.2.2.2.1] 55] := hH'
      clear hH'
      try dsimp only [putL, setL, evL, getL]
      refine HL_cons rfl ?_
      refine o_assign ?_
      try dsimp only [putL, setL, evL, getL]
      refine HL_nil ?_
      refine hK31 _ _ ?_
      refine HT_seq_k ?_
      intro K46 hK46
      refine joinH H fun G47 hG47 H => ?_
      refine HT_joinK (fun l' s' => ∃ (x50 : Bool), G47 x50 = some r ∧ l' = [.agg #[.int .i64 p0_0, .int .i64 p0_1, .slice A0_2p p0_2.length c0_2p, .int .i64 p0_3, .int .i64 p0_4], .slice A1p p1.length c1p, .pointer (some ⟨b2, 0, none⟩), undef, .bool false, .int .i64 u9, .pointer (some ⟨b21, 0, none⟩), .bool u19.2.2.2.2.2, .pointer (some ⟨b26, 0, none⟩), .slice A30 u29.length c30, .pointer (some ⟨b34, 0, none⟩), .bool u32.2.2.2.2.2, undef, undef, undef, undef, undef, .slice A1p p1.length c1p, .int .i64 (p1.length : Int), .bool (decide ((p1.length : Int) > 1048576)), .agg #[.int .i64 p0_0, .int .i64 p0_1, .slice A0_2p p0_2.length c0_2p, .int .i64 p0_3, .int .i64 p0_4], .int .i64 1048576, .int .i64 u9, .int .i64 u9, .bool (decide (u9 < 0)), .tuple #[.agg #[.int .i64 u19.1, .int .i64 u19.2.1, .slice A20 u19.2.2.1.length c20, .int .i64 u19.2.2.2.1, .int .i64 u19.2.2.2.2.1], .bool u19.2.2.2.2.2], .agg #[.int .i64 p0_0, .int .i64 p0_1, .slice A0_2p p0_2.length c0_2p, .int .i64 p0_3, .int .i64 p0_4], .agg #[.int .i64 u15.1, .int .i64 u15.2.1, .slice A16 u15.2.2.1.length c16, .int .i64 u15.2.2.2.1, .int .i64 u15.2.2.2.2], .slice A1p p1.length c1p, .slice A18 u17.length c18, .tuple #[.agg #[.int .i64 u19.1, .int .i64 u19.2.1, .slice A20 u19.2.2.1.length c20, .int .i64 u19.2.2.2.1, .int .i64 u19.2.2.2.2.1], .bool u19.2.2.2.2.2], .agg #[.int .i64 u19.1, .int .i64 u19.2.1, .slice A20 u19.2.2.1.length c20, .int .i64 u19.2.2.2.1, .int .i64 u19.2.2.2.2.1], .bool u19.2.2.2.2.2, .agg #[.int .i64 p0_0, .int .i64 p0_1, .slice A0_2p p0_2.length c0_2p, .int .i64 p0_3, .int .i64 p0_4], .agg #[.int .i64 u24.1, .int .i64 u24.2.1, .slice A25 u24.2.2.1.length c25, .int .i64 u24.2.2.2.1, .int .i64 u24.2.2.2.2], .slice A1p p1.length c1p, .slice A30 u29.length c30, .tuple #[.agg #[.int .i64 u32.1, .int .i64 u32.2.1, .slice A33 u32.2.2.1.length c33, .int .i64 u32.2.2.2.1, .int .i64 u32.2.2.2.2.1], .bool u32.2.2.2.2.2], .agg #[.int .i64 u24.1, .int .i64 u24.2.1, .slice A25 u24.2.2.1.length c25, .int .i64 u24.2.2.2.1, .int .i64 u24.2.2.2.2], .slice A30 u29.length c30, .tuple #[.agg #[.int .i64 u32.1, .int .i64 u32.2.1, .slice A33 u32.2.2.1.length c33, .int .i64 u32.2.2.2.1, .int .i64 u32.2.2.2.2.1], .bool u32.2.2.2.2.2], .agg #[.int .i64 u32.1, .int .i64 u32.2.1, .slice A33 u32.2.2.1.length c33, .int .i64 u32.2.2.2.1, .int .i64 u32.2.2.2.2.1], .bool u32.2.2.2.2.2, getL l' 43, getL l' 44, getL l' 45, getL l' 46, getL l' 47, getL l' 48, getL l' 49, getL l' 50, .bool x50, undef, undef, undef, undef, undef, undef, undef, undef, undef, undef, undef, undef, undef, undef, undef, undef, undef, undef, undef, undef, undef, undef, undef, undef, undef, undef, undef, undef, undef, undef, undef, undef, undef, undef, undef, undef, undef, undef, undef, undef, undef, undef, undef, undef, undef, undef, undef, undef, undef, undef, undef, undef, undef, undef, undef, undef, undef, undef, undef, undef, undef, undef, undef, undef, undef] ∧ Hp sb s F0 s' [Ck.ol OI 3 A30 c30 u29, Ck.ol OI 3 A20 c20 u19.2.2.1, Ck.ol OI 3 A25 c25 u24.2.2.1, Ck.ol OI 3 A33 c33 u32.2.2.1, Ck.ov b2 [.int .i64 p0_0, .int .i64 p0_1, .slice A0_2p p0_2.length c0_2p, .int .i64 p0_3, .int .i64 p0_4] 51, Ck.ov b21 [.int .i64 u19.1, .int .i64 u19.2.1, .slice A20 u19.2.2.1.length c20, .int .i64 u19.2.2.2.1, .int .i64 u19.2.2.2.2.1] 55, Ck.ov b26 [.int .i64 u24.1, .int .i64 u24.2.1, .slice A25 u24.2.2.1.length c25, .int .i64 u24.2.2.2.1, .int .i64 u24.2.2.2.2] 55, Ck.ov b34 [.int .i64 u32.1, .int .i64 u32.2.1, .slice A33 u32.2.2.1.length c33, .int .i64 u32.2.2.2.1, .int .i64 u32.2.2.2.2.1] 55]) ?_ ?_
      · intro K47 hK47
        refine HT_region ?_
        refine HL_cons rfl ?_
        refine o_loads' [.int .i64 u32.1, .int .i64 u32.2.1, .slice A33 u32.2.2.1.length c33, .int .i64 u32.2.2.2.1, .int .i64 u32.2.2.2.2.1] rfl Try.underlying55 rfl tI55 rfl (hH.partv 9 rfl (0) [.int .i64 u32.1, .int .i64 u32.2.1, .slice A33 u32.2.2.1.length c33, .int .i64 u32.2.2.2.1, .int .i64 u32.2.2.2.2.1] rfl) ?_
        try dsimp only [putL, setL, evL, getL]
        refine HL_cons rfl ?_
        refine o_loads' [.int .i64 u19.1, .int .i64 u19.2.1, .slice A20 u19.2.2.1.length c20, .int .i64 u19.2.2.2.1, .int .i64 u19.2.2.2.2.1] rfl Try.underlying55 rfl tI55 rfl (hH.partv 4 rfl (0) [.int .i64 u19.1, .int .i64 u19.2.1, .slice A20 u19.2.2.1.length c20, .int .i64 u19.2.2.2.1, .int .i64 u19.2.2.2.2.1] rfl) ?_
        try dsimp only [putL, setL, evL, getL]
        obtain ⟨u51, hu51, H⟩ := headE H
        refine HL_cons rfl ?_
        refine o_call (args := #[.agg #[.int .i64 u32.1, .int .i64 u32.2.1, .slice A33 u32.2.2.1.length c33, .int .i64 u32.2.2.2.1, .int .i64 u32.2.2.2.2.1], .agg #[.int .i64 u19.1, .int .i64 u19.2.1, .slice A20 u19.2.2.1.length c20, .int .i64 u19.2.2.2.1, .int .i64 u19.2.2.2.2.1]]) Try.func43 rfl rfl rfl (laws_eqScreen.ok s35 s35 no u32.1 u32.2.1 A33 c33 u32.2.2.1 u32.2.2.2.1 u32.2.2.2.2.1 u19.1 u19.2.1 A20 c20 u19.2.2.1 u19.2.2.2.1 u19.2.2.2.2.1 (hH.rd 8 rfl) (hH.rd 3 rfl) (Hp.own (Bs.refl s35)) _ hu51) ?_
        rintro _ s51 ⟨rfl, hD⟩
        replace hH := hH.back0T hD
        clear hD
        dsimp only [addC, setC, rmC, selC, getC] at hH
        try dsimp only [putL, setL, evL, getL]
        refine HL_cons rfl ?_
        refine o_not rfl ?_
        try dsimp only [putL, setL, evL, getL]
        refine HL_cons rfl ?_
        refine o_move ?_
        try dsimp only [putL, setL, evL, getL]
        rcases Bool.eq_false_or_eq_true (!u51) with hb52 | hb52
        · replace H := iteT hb52 H
          refine HL_skip ?_ ?_
          · exact wantF (j := 4) (b := false) (t := 47) (c := !u51) rfl rfl rfl rfl hb52
          try dsimp only [putL, setL, evL, getL]
          refine HL_skip ?_ ?_
          · exact wantF (j := 4) (b := false) (t := 47) (c := !u51) rfl rfl rfl rfl hb52
          try dsimp only [putL, setL, evL, getL]
          refine HL_skip ?_ ?_
          · exact wantF (j := 4) (b := false) (t := 47) (c := !u51) rfl rfl rfl rfl hb52
          try dsimp only [putL, setL, evL, getL]
          refine HL_cons rfl ?_
          refine o_pickT rfl hb52 ?_
          try dsimp only [putL, setL, evL, getL]
          refine HL_nil ?_
          exact hK47 _ _ ⟨true, H, rfl, hH.sel [7, 3, 5, 8, 0, 4, 6, 9] (by decide)⟩
        · replace H := iteF hb52 H
          refine HL_want ?_ ?_
          · exact wantT (j := 4) (b := false) (t := 47) (c := !u51) rfl rfl rfl rfl hb52
          refine o_move ?_
          try dsimp only [putL, setL, evL, getL]
          refine HL_want ?_ ?_
          · exact wantT (j := 4) (b := false) (t := 47) (c := !u51) rfl rfl rfl rfl hb52
          refine o_move ?_
          try dsimp only [putL, setL, evL, getL]
          refine HL_want ?_ ?_
          · exact wantT (j := 4) (b := false) (t := 47) (c := !u51) rfl rfl rfl rfl hb52
          refine o_neb rfl rfl Try.underlying4 ?_
          try dsimp only [putL, setL, evL, getL]
          refine HL_cons rfl ?_
          refine o_pickF rfl hb52 ?_
          try dsimp only [putL, setL, evL, getL]
          refine HL_nil ?_
          exact hK47 _ _ ⟨u32.2.2.2.2.2 != u19.2.2.2.2.2, H, rfl, hH.sel [7, 3, 5, 8, 0, 4, 6, 9] (by decide)⟩
      · rintro l' s53 ⟨x50, H, hl, hH⟩
        generalize getL l' 43 = j43, getL l' 44 = j44, getL l' 45 = j45, getL l' 46 = j46, getL l' 47 = j47, getL l' 48 = j48, getL l' 49 = j49, getL l' 50 = j50 at hl
        subst hl
        replace H := hG47 _ H
        try dsimp only at H
        rcases Bool.eq_false_or_eq_true x50 with hb54 | hb54
        · replace H := iteT hb54 H
          refine HT_true (congrArg Value.bool hb54) ?_
          refine HT_seq_k ?_
          intro K55 hK55
          refine HT_region ?_
          refine HL_cons rfl ?_
          refine o_assign ?_
          try dsimp only [putL, setL, evL, getL]
          refine HL_nil ?_
          refine hK55 _ _ ?_
          refine HT_ret ?_
          obtain rfl := Option.some.inj (show some _ = some r from H)
          exact hQr _ _ [.bool false] ⟨rfl, trivial⟩ ⟨rfl, hH.sel [] (by decide)⟩
        · replace H := iteF hb54 H
          refine HT_false (congrArg Value.bool hb54) ?_
          refine HT_skip ?_
          refine hK46 _ _ ?_
          refine HT_seq_k ?_
          intro K56 hK56
          refine HT_seq_k ?_
          intro K57 hK57
          refine HK_draw (fun s' => Gro s53 s') 6 hMix ?_
          have hR := Gro.refl s53
          have hH0 := hH
          refine HK_read 0 (v := .agg #[.int .i64 u24.1, .int .i64 u24.2.1, .slice A25 u24.2.2.1.length c25, .int .i64 u24.2.2.2.1, .int .i64 u24.2.2.2.2]) rfl (by kernel_rfl) (fun c l s h => hQp c l s h) rfl (fun s' hR' K hK => ?_) rfl rfl hR ?_
          · refine o_loads' [.int .i64 u24.1, .int .i64 u24.2.1, .slice A25 u24.2.2.1.length c25, .int .i64 u24.2.2.2.1, .int .i64 u24.2.2.2.2] rfl Try.underlying55 rfl tI55 rfl (fun j v hj => has_gro hR' ((hH0.partv 6 rfl (0) [.int .i64 u24.1, .int .i64 u24.2.1, .slice A25 u24.2.2.1.length c25, .int .i64 u24.2.2.2.1, .int .i64 u24.2.2.2.2] rfl) j v hj)) ?_
            exact hK
          try dsimp only [putL, setL, evL, getL]
          refine HK_read 1 (v := .agg #[.int .i64 p0_0, .int .i64 p0_1, .slice A0_2p p0_2.length c0_2p, .int .i64 p0_3, .int .i64 p0_4]) rfl (by kernel_rfl) (fun c l s h => hQp c l s h) rfl (fun s' hR' K hK => ?_) rfl rfl hR ?_
          · refine o_loads' [.int .i64 p0_0, .int .i64 p0_1, .slice A0_2p p0_2.length c0_2p, .int .i64 p0_3, .int .i64 p0_4] rfl Try.underlying51 rfl tI51 rfl (fun j v hj => has_gro hR' ((hH0.partv 4 rfl (0) [.int .i64 p0_0, .int .i64 p0_1, .slice A0_2p p0_2.length c0_2p, .int .i64 p0_3, .int .i64 p0_4] rfl) j v hj)) ?_
            exact hK
          try dsimp only [putL, setL, evL, getL]
          obtain ⟨u58, hu58, H⟩ := headE H
          refine HK_one 2 (by kernel_rfl) rfl (fun _ => hR) rfl ?_
          refine o_call (args := #[.agg #[.int .i64 p0_0, .int .i64 p0_1, .slice A0_2p p0_2.length c0_2p, .int .i64 p0_3, .int .i64 p0_4]]) Try.func41 rfl rfl rfl (laws_toScreen.ok sb s53 no p0_0 p0_1 A0_2p c0_2p p0_2 p0_3 p0_4 HRp0_2 (Hp.own hH.bs) _ hu58) ?_
          rintro _ s58 ⟨A59, c59, rfl, hD⟩
          replace hR := hR.trans hD.gro
          replace hH := hH.back0 hD (Up.refl _ _ _)
          clear hD
          dsimp only [addC, setC, rmC, selC, getC] at hH
          try dsimp only [putL, setL, evL, getL]
          obtain ⟨u60, hu60, H⟩ := headE H
          refine HK_one 3 (by kernel_rfl) rfl (fun _ => hR) rfl ?_
          refine o_call (args := #[.agg #[.int .i64 u24.1, .int .i64 u24.2.1, .slice A25 u24.2.2.1.length c25, .int .i64 u24.2.2.2.1, .int .i64 u24.2.2.2.2], .agg #[.int .i64 u58.1, .int .i64 u58.2.1, .slice A59 u58.2.2.1.length c59, .int .i64 u58.2.2.2.1, .int .i64 u58.2.2.2.2]]) Try.func43 rfl rfl rfl (laws_eqScreen.ok s58 s58 no u24.1 u24.2.1 A25 c25 u24.2.2.1 u24.2.2.2.1 u24.2.2.2.2 u58.1 u58.2.1 A59 c59 u58.2.2.1 u58.2.2.2.1 u58.2.2.2.2 (hH.rd 2 rfl) (hH.rd 8 rfl) (Hp.own (Bs.refl s58)) _ hu60) ?_
          rintro _ s60 ⟨rfl, hD⟩
          replace hR := hR.trans hD.gro
          replace hH := hH.back0T hD
          clear hD
          dsimp only [addC, setC, rmC, selC, getC] at hH
          try dsimp only [putL, setL, evL, getL]
          refine HK_readP 4 (v := .bool (!u60)) rfl (by kernel_rfl) (fun c l s h => hQp c l s h) rfl (fun s' K hK => ?_) rfl rfl (fun _ => hR) ?_
          · refine o_not rfl ?_
            exact hK
          try dsimp only [putL, setL, evL, getL]
          refine HK_done (fun _ => hR) (by kernel_rfl) ?_
          refine hK57 _ _ ?_
          rcases Bool.eq_false_or_eq_true (!u60) with hb61 | hb61
          · replace H := iteT hb61 H
            refine HT_true (congrArg Value.bool hb61) ?_
            refine HT_seq_k ?_
            intro K62 hK62
            refine HT_region ?_
            refine HL_cons rfl ?_
            refine o_assign ?_
            try dsimp only [putL, setL, evL, getL]
            refine HL_nil ?_
            refine hK62 _ _ ?_
            refine HT_ret ?_
            obtain rfl := Option.some.inj (show some _ = some r from H)
            exact hQr _ _ [.bool false] ⟨rfl, trivial⟩ ⟨rfl, hH.sel [] (by decide)⟩
          · replace H := iteF hb61 H
            refine HT_false (congrArg Value.bool hb61) ?_
            refine HT_skip ?_
            refine hK56 _ _ ?_
            refine HT_seq_k ?_
            intro K63 hK63
            refine HT_seq_k ?_
            intro K64 hK64
            refine HT_region ?_
            refine HL_cons rfl ?_
            refine o_move ?_
            try dsimp only [putL, setL, evL, getL]
            refine HL_cons rfl ?_
            refine o_move ?_
            try dsimp only [putL, setL, evL, getL]
            obtain ⟨u65, hu65, H⟩ := headE H
            refine HL_cons rfl ?_
            refine o_call (args := #[.slice A1p p1.length c1p]) Try.func16 rfl rfl rfl (laws_toIntS.ok sb s60 no A1p c1p p1 HRp1 (Hp.own hH.bs) _ hu65) ?_
            rintro _ s65 ⟨A66, c66, rfl, hD⟩
            replace hH := hH.back0 hD (Up.refl _ _ _)
            clear hD
            dsimp only [addC, setC, rmC, selC, getC] at hH
            try dsimp only [putL, setL, evL, getL]
            obtain ⟨u67, hu67, H⟩ := headE H
            refine HL_cons rfl ?_
            refine o_call (args := #[.slice A30 u29.length c30, .slice A66 u65.length c66]) Try.func18 rfl rfl rfl (laws_eqIntS.ok s65 s65 no A30 c30 u29 A66 c66 u65 (hH.rd 0 rfl) (hH.rd 9 rfl) (Hp.own (Bs.refl s65)) _ hu67) ?_
            rintro _ s67 ⟨rfl, hD⟩
            replace hH := hH.back0T hD
            clear hD
            dsimp only [addC, setC, rmC, selC, getC] at hH
            try dsimp only [putL, setL, evL, getL]
            refine HL_cons rfl ?_
            refine o_not rfl ?_
            try dsimp only [putL, setL, evL, getL]
            refine HL_nil ?_
            refine hK64 _ _ ?_
            rcases Bool.eq_false_or_eq_true (!u67) with hb68 | hb68
            · replace H := iteT hb68 H
              refine HT_true (congrArg Value.bool hb68) ?_
              refine HT_seq_k ?_
              intro K69 hK69
              refine HT_region ?_
              refine HL_cons rfl ?_
              refine o_assign ?_
              try dsimp only [putL, setL, evL, getL]
              refine HL_nil ?_
              refine hK69 _ _ ?_
              refine HT_ret ?_
              obtain rfl := Option.some.inj (show some _ = some r from H)
              exact hQr _ _ [.bool false] ⟨rfl, trivial⟩ ⟨rfl, hH.sel [] (by decide)⟩
            · replace H := iteF hb68 H
              refine HT_false (congrArg Value.bool hb68) ?_
              refine HT_skip ?_
              refine hK63 _ _ ?_
              refine HT_seq_k ?_
              intro K70 hK70
              refine HT_region ?_
              refine HL_cons rfl ?_
              refine o_assign ?_
              try dsimp only [putL, setL, evL, getL]
              refine HL_nil ?_
              refine hK70 _ _ ?_
              refine HT_seq_k ?_
              intro K71 hK71
              refine HT_region ?_
              refine HL_cons rfl ?_
              refine o_loads' [.int .i64 u24.1, .int .i64 u24.2.1, .slice A25 u24.2.2.1.length c25, .int .i64 u24.2.2.2.1, .int .i64 u24.2.2.2.2] rfl Try.underlying55 rfl tI55 rfl (hH.partv 6 rfl (0) [.int .i64 u24.1, .int .i64 u24.2.1, .slice A25 u24.2.2.1.length c25, .int .i64 u24.2.2.2.1, .int .i64 u24.2.2.2.2] rfl) ?_
              try dsimp only [putL, setL, evL, getL]
              refine HL_cons rfl ?_
              refine o_move ?_
              try dsimp only [putL, setL, evL, getL]
              obtain ⟨u72, hu72, H⟩ := headE H
              obtain ⟨F1, hA, hB⟩ := hH.take [2] (by decide)
              dsimp only [addC, setC, rmC, selC, getC] at hA
              refine HL_cons rfl ?_
              refine o_call (args := #[.agg #[.int .i64 u24.1, .int .i64 u24.2.1, .slice A25 u24.2.2.1.length c25, .int .i64 u24.2.2.2.1, .int .i64 u24.2.2.2.2], .int .i64 1]) Try.func76 rfl rfl rfl (laws_markScreen.ok sb s67 F1 u24.1 u24.2.1 A25 c25 u24.2.2.1 u24.2.2.2.1 u24.2.2.2.2 1 hA _ hu72) ?_
              rintro _ s72 ⟨rfl, hD, hl73⟩
              replace hH := hB _ _ _ (Up.refl _ _ _) hD
              clear hD hA hB
              dsimp only [addC, setC, rmC, selC, getC] at hH
              try dsimp only [putL, setL, evL, getL]
              refine HL_cons rfl ?_
              refine o_assign ?_
              try dsimp only [putL, setL, evL, getL]
              refine HL_nil ?_
              refine hK71 _ _ ?_
              refine HT_seq_k ?_
              intro K74 hK74
              refine HT_region ?_
              refine HL_cons rfl ?_
              refine o_move ?_
              try dsimp only [putL, setL, evL, getL]
              refine HL_cons rfl ?_
              refine o_move ?_
              try dsimp only [putL, setL, evL, getL]
              obtain ⟨u75, hu75, H⟩ := headE H
              obtain ⟨F1, hA, hB⟩ := hH.take [0] (by decide)
              dsimp only [addC, setC, rmC, selC, getC] at hA
              refine HL_cons rfl ?_
              refine o_call (args := #[.slice A30 u29.length c30, .int .i64 u72.1]) Try.func19 rfl rfl rfl (laws_markIntS.ok sb s72 F1 A30 c30 u29 u72.1 hA _ hu75) ?_
              rintro _ s75 ⟨rfl, hD, hl76⟩
              replace hH := hB _ _ _ (Up.refl _ _ _) hD
              clear hD hA hB
              dsimp only [addC, setC, rmC, selC, getC] at hH
              try dsimp only [putL, setL, evL, getL]
              refine HL_cons rfl ?_
              refine o_assign ?_
              try dsimp only [putL, setL, evL, getL]
              refine HL_nil ?_
              refine hK74 _ _ ?_
              refine HT_seq_k ?_
              intro K89 hK89
              refine joinH H fun G90 hG90 H => ?_
              refine HT_joinK (fun l' s' => ∃ (x94 : Bool), G90 x94 = some r ∧ l' = [.agg #[.int .i64 p0_0, .int .i64 p0_1, .slice A0_2p p0_2.length c0_2p, .int .i64 p0_3, .int .i64 p0_4], .slice A1p p1.length c1p, .pointer (some ⟨b2, 0, none⟩), undef, .bool false, .int .i64 u9, .pointer (some ⟨b21, 0, none⟩), .bool u19.2.2.2.2.2, .pointer (some ⟨b26, 0, none⟩), .slice A30 u29.length c30, .pointer (some ⟨b34, 0, none⟩), .bool u32.2.2.2.2.2, .int .i64 u75.1, undef, undef, undef, undef, .slice A1p p1.length c1p, .int .i64 (p1.length : Int), .bool (decide ((p1.length : Int) > 1048576)), .agg #[.int .i64 p0_0, .int .i64 p0_1, .slice A0_2p p0_2.length c0_2p, .int .i64 p0_3, .int .i64 p0_4], .int .i64 1048576, .int .i64 u9, .int .i64 u9, .bool (decide (u9 < 0)), .tuple #[.agg #[.int .i64 u19.1, .int .i64 u19.2.1, .slice A20 u19.2.2.1.length c20, .int .i64 u19.2.2.2.1, .int .i64 u19.2.2.2.2.1], .bool u19.2.2.2.2.2], .agg #[.int .i64 p0_0, .int .i64 p0_1, .slice A0_2p p0_2.length c0_2p, .int .i64 p0_3, .int .i64 p0_4], .agg #[.int .i64 u15.1, .int .i64 u15.2.1, .slice A16 u15.2.2.1.length c16, .int .i64 u15.2.2.2.1, .int .i64 u15.2.2.2.2], .slice A1p p1.length c1p, .slice A18 u17.length c18, .tuple #[.agg #[.int .i64 u19.1, .int .i64 u19.2.1, .slice A20 u19.2.2.1.length c20, .int .i64 u19.2.2.2.1, .int .i64 u19.2.2.2.2.1], .bool u19.2.2.2.2.2], .agg #[.int .i64 u19.1, .int .i64 u19.2.1, .slice A20 u19.2.2.1.length c20, .int .i64 u19.2.2.2.1, .int .i64 u19.2.2.2.2.1], .bool u19.2.2.2.2.2, .agg #[.int .i64 p0_0, .int .i64 p0_1, .slice A0_2p p0_2.length c0_2p, .int .i64 p0_3, .int .i64 p0_4], .agg #[.int .i64 u24.1, .int .i64 u24.2.1, .slice A25 u24.2.2.1.length c25, .int .i64 u24.2.2.2.1, .int .i64 u24.2.2.2.2], .slice A1p p1.length c1p, .slice A30 u29.length c30, .tuple #[.agg #[.int .i64 u32.1, .int .i64 u32.2.1, .slice A33 u32.2.2.1.length c33, .int .i64 u32.2.2.2.1, .int .i64 u32.2.2.2.2.1], .bool u32.2.2.2.2.2], .agg #[.int .i64 u24.1, .int .i64 u24.2.1, .slice A25 u24.2.2.1.length c25, .int .i64 u24.2.2.2.1, .int .i64 u24.2.2.2.2], .slice A30 u29.length c30, .tuple #[.agg #[.int .i64 u32.1, .int .i64 u32.2.1, .slice A33 u32.2.2.1.length c33, .int .i64 u32.2.2.2.1, .int .i64 u32.2.2.2.2.1], .bool u32.2.2.2.2.2], .agg #[.int .i64 u32.1, .int .i64 u32.2.1, .slice A33 u32.2.2.1.length c33, .int .i64 u32.2.2.2.1, .int .i64 u32.2.2.2.2.1], .bool u32.2.2.2.2.2, j43, j44, j45, j46, j47, j48, j49, j50, .bool x50, .agg #[.int .i64 u24.1, .int .i64 u24.2.1, .slice A25 u24.2.2.1.length c25, .int .i64 u24.2.2.2.1, .int .i64 u24.2.2.2.2], .agg #[.int .i64 p0_0, .int .i64 p0_1, .slice A0_2p p0_2.length c0_2p, .int .i64 p0_3, .int .i64 p0_4], .agg #[.int .i64 u58.1, .int .i64 u58.2.1, .slice A59 u58.2.2.1.length c59, .int .i64 u58.2.2.2.1, .int .i64 u58.2.2.2.2], .bool u60, .bool (!u60), .slice A30 u29.length c30, .slice A1p p1.length c1p, .slice A66 u65.length c66, .bool u67, .bool (!u67), .agg #[.int .i64 u24.1, .int .i64 u24.2.1, .slice A25 u24.2.2.1.length c25, .int .i64 u24.2.2.2.1, .int .i64 u24.2.2.2.2], .int .i64 1, .int .i64 u72.1, .slice A30 u29.length c30, .int .i64 u72.1, .int .i64 u75.1, getL l' 68, getL l' 69, getL l' 70, getL l' 71, getL l' 72, getL l' 73, getL l' 74, getL l' 75, getL l' 76, getL l' 77, getL l' 78, getL l' 79, .bool x94, undef, undef, undef, undef, undef, undef, undef, undef, undef, undef, undef, undef, undef, undef, undef, undef, undef, undef, undef, undef, undef, undef, undef, undef, undef, undef, undef, undef, undef, undef, undef, undef, undef, undef, undef, undef] ∧ Hp sb s F0 s' [Ck.ol OI 3 A20 c20 u19.2.2.1, Ck.ol OI 3 A33 c33 u32.2.2.1, Ck.ov b2 [.int .i64 p0_0, .int .i64 p0_1, .slice A0_2p p0_2.length c0_2p, .int .i64 p0_3, .int .i64 p0_4] 51, Ck.ov b21 [.int .i64 u19.1, .int .i64 u19.2.1, .slice A20 u19.2.2.1.length c20, .int .i64 u19.2.2.2.1, .int .i64 u19.2.2.2.2.1] 55, Ck.ov b34 [.int .i64 u32.1, .int .i64 u32.2.1, .slice A33 u32.2.2.1.length c33, .int .i64 u32.2.2.2.1, .int .i64 u32.2.2.2.2.1] 55]) ?_ ?_
              · intro K90 hK90
                refine HT_region ?_
                refine HL_cons rfl ?_
                refine o_move ?_
                try dsimp only [putL, setL, evL, getL]
                refine HL_cons rfl ?_
                refine o_bin rfl rfl rfl ?_
                try dsimp only [putL, setL, evL, getL]
                refine HL_cons rfl ?_
                refine o_move ?_
                try dsimp only [putL, setL, evL, getL]
                rcases Bool.eq_false_or_eq_true (decide (u75.1 < 0)) with hb95 | hb95
                · replace H := iteT hb95 H
                  refine HL_skip ?_ ?_
                  · exact wantF (j := 2) (b := false) (t := 70) (c := decide (u75.1 < 0)) rfl rfl rfl rfl hb95
                  try dsimp only [putL, setL, evL, getL]
                  refine HL_skip ?_ ?_
                  · exact wantF (j := 2) (b := false) (t := 70) (c := decide (u75.1 < 0)) rfl rfl rfl rfl hb95
                  try dsimp only [putL, setL, evL, getL]
                  refine HL_skip ?_ ?_
                  · exact wantF (j := 2) (b := false) (t := 70) (c := decide (u75.1 < 0)) rfl rfl rfl rfl hb95
                  try dsimp only [putL, setL, evL, getL]
                  refine HL_skip ?_ ?_
                  · exact wantF (j := 2) (b := false) (t := 70) (c := decide (u75.1 < 0)) rfl rfl rfl rfl hb95
                  try dsimp only [putL, setL, evL, getL]
                  refine HL_cons rfl ?_
                  refine o_pickT rfl hb95 ?_
                  try dsimp only [putL, setL, evL, getL]
                  refine HL_cons rfl ?_
                  refine o_move ?_
                  try dsimp only [putL, setL, evL, getL]
                  refine HL_skip ?_ ?_
                  · exact wantF (j := 8) (b := false) (t := 76) (c := true) rfl rfl rfl rfl rfl
                  try dsimp only [putL, setL, evL, getL]
                  refine HL_skip ?_ ?_
                  · exact wantF (j := 8) (b := false) (t := 76) (c := true) rfl rfl rfl rfl rfl
                  try dsimp only [putL, setL, evL, getL]
                  refine HL_skip ?_ ?_
                  · exact wantF (j := 8) (b := false) (t := 76) (c := true) rfl rfl rfl rfl rfl
                  try dsimp only [putL, setL, evL, getL]
                  refine HL_cons rfl ?_
                  refine o_pickT rfl rfl ?_
                  try dsimp only [putL, setL, evL, getL]
                  refine HL_nil ?_
                  exact hK90 _ _ ⟨true, H, rfl, (by first | exact hH.sel [1, 3, 4, 5, 7] (by decide) | (rw [hl73]; exact hH.sel [1, 3, 4, 5, 7] (by decide)))⟩
                · replace H := iteF hb95 H
                  refine HL_want ?_ ?_
                  · exact wantT (j := 2) (b := false) (t := 70) (c := decide (u75.1 < 0)) rfl rfl rfl rfl hb95
                  refine o_loads' [.int .i64 u32.1, .int .i64 u32.2.1, .slice A33 u32.2.2.1.length c33, .int .i64 u32.2.2.2.1, .int .i64 u32.2.2.2.2.1] rfl Try.underlying55 rfl tI55 rfl (hH.partv 7 rfl (0) [.int .i64 u32.1, .int .i64 u32.2.1, .slice A33 u32.2.2.1.length c33, .int .i64 u32.2.2.2.1, .int .i64 u32.2.2.2.2.1] rfl) ?_
                  try dsimp only [putL, setL, evL, getL]
                  refine HL_want ?_ ?_
                  · exact wantT (j := 2) (b := false) (t := 70) (c := decide (u75.1 < 0)) rfl rfl rfl rfl hb95
                  refine o_loads' [.int .i64 u19.1, .int .i64 u19.2.1, .slice A20 u19.2.2.1.length c20, .int .i64 u19.2.2.2.1, .int .i64 u19.2.2.2.2.1] rfl Try.underlying55 rfl tI55 rfl (hH.partv 5 rfl (0) [.int .i64 u19.1, .int .i64 u19.2.1, .slice A20 u19.2.2.1.length c20, .int .i64 u19.2.2.2.1, .int .i64 u19.2.2.2.2.1] rfl) ?_
                  try dsimp only [putL, setL, evL, getL]
                  obtain ⟨u96, hu96, H⟩ := headE H
                  refine HL_want ?_ ?_
                  · exact wantT (j := 2) (b := false) (t := 70) (c := decide (u75.1 < 0)) rfl rfl rfl rfl hb95
                  refine o_call (args := #[.agg #[.int .i64 u32.1, .int .i64 u32.2.1, .slice A33 u32.2.2.1.length c33, .int .i64 u32.2.2.2.1, .int .i64 u32.2.2.2.2.1], .agg #[.int .i64 u19.1, .int .i64 u19.2.1, .slice A20 u19.2.2.1.length c20, .int .i64 u19.2.2.2.1, .int .i64 u19.2.2.2.2.1]]) Try.func43 rfl rfl rfl (laws_eqScreen.ok s75 s75 no u32.1 u32.2.1 A33 c33 u32.2.2.1 u32.2.2.2.1 u32.2.2.2.2.1 u19.1 u19.2.1 A20 c20 u19.2.2.1 u19.2.2.2.1 u19.2.2.2.2.1 (hH.rd 3 rfl) (hH.rd 1 rfl) (Hp.own (Bs.refl s75)) _ hu96) ?_
                  rintro _ s96 ⟨rfl, hD⟩
                  replace hH := hH.back0T hD
                  clear hD
                  dsimp only [addC, setC, rmC, selC, getC] at hH
                  try dsimp only [putL, setL, evL, getL]
                  refine HL_want ?_ ?_
                  · exact wantT (j := 2) (b := false) (t := 70) (c := decide (u75.1 < 0)) rfl rfl rfl rfl hb95
                  refine o_not rfl ?_
                  try dsimp only [putL, setL, evL, getL]
                  refine HL_cons rfl ?_
                  refine o_pickF rfl hb95 ?_
                  try dsimp only [putL, setL, evL, getL]
                  refine HL_cons rfl ?_
                  refine o_move ?_
                  try dsimp only [putL, setL, evL, getL]
                  rcases Bool.eq_false_or_eq_true (!u96) with hb97 | hb97
                  · replace H := iteT hb97 H
                    refine HL_skip ?_ ?_
                    · exact wantF (j := 8) (b := false) (t := 76) (c := !u96) rfl rfl rfl rfl hb97
                    try dsimp only [putL, setL, evL, getL]
                    refine HL_skip ?_ ?_
                    · exact wantF (j := 8) (b := false) (t := 76) (c := !u96) rfl rfl rfl rfl hb97
                    try dsimp only [putL, setL, evL, getL]
                    refine HL_skip ?_ ?_
                    · exact wantF (j := 8) (b := false) (t := 76) (c := !u96) rfl rfl rfl rfl hb97
                    try dsimp only [putL, setL, evL, getL]
                    refine HL_cons rfl ?_
                    refine o_pickT rfl hb97 ?_
                    try dsimp only [putL, setL, evL, getL]
                    refine HL_nil ?_
                    exact hK90 _ _ ⟨true, H, rfl, (by first | exact hH.sel [1, 3, 4, 5, 7] (by decide) | (rw [hl73]; exact hH.sel [1, 3, 4, 5, 7] (by decide)))⟩
                  · replace H := iteF hb97 H
                    refine HL_want ?_ ?_
                    · exact wantT (j := 8) (b := false) (t := 76) (c := !u96) rfl rfl rfl rfl hb97
                    refine o_move ?_
                    try dsimp only [putL, setL, evL, getL]
                    refine HL_want ?_ ?_
                    · exact wantT (j := 8) (b := false) (t := 76) (c := !u96) rfl rfl rfl rfl hb97
                    refine o_move ?_
                    try dsimp only [putL, setL, evL, getL]
                    refine HL_want ?_ ?_
                    · exact wantT (j := 8) (b := false) (t := 76) (c := !u96) rfl rfl rfl rfl hb97
                    refine o_neb rfl rfl Try.underlying4 ?_
                    try dsimp only [putL, setL, evL, getL]
                    refine HL_cons rfl ?_
                    refine o_pickF rfl hb97 ?_
                    try dsimp only [putL, setL, evL, getL]
                    refine HL_nil ?_
                    exact hK90 _ _ ⟨u32.2.2.2.2.2 != u19.2.2.2.2.2, H, rfl, (by first | exact hH.sel [1, 3, 4, 5, 7] (by decide) | (rw [hl73]; exact hH.sel [1, 3, 4, 5, 7] (by decide)))⟩
              · rintro l' s98 ⟨x94, H, hl, hH⟩
                generalize getL l' 68 = j68, getL l' 69 = j69, getL l' 70 = j70, getL l' 71 = j71, getL l' 72 = j72, getL l' 73 = j73, getL l' 74 = j74, getL l' 75 = j75, getL l' 76 = j76, getL l' 77 = j77, getL l' 78 = j78, getL l' 79 = j79 at hl
                subst hl
                replace H := hG90 _ H
                try dsimp only at H
                rcases Bool.eq_false_or_eq_true x94 with hb99 | hb99
                · replace H := iteT hb99 H
                  refine HT_true (congrArg Value.bool hb99) ?_
                  refine HT_seq_k ?_
                  intro K100 hK100
                  refine HT_region ?_
                  refine HL_cons rfl ?_
                  refine o_assign ?_
                  try dsimp only [putL, setL, evL, getL]
                  refine HL_nil ?_
                  refine hK100 _ _ ?_
                  refine HT_ret ?_
                  obtain rfl := Option.some.inj (show some _ = some r from H)
                  exact hQr _ _ [.bool false] ⟨rfl, trivial⟩ ⟨rfl, hH.sel [] (by decide)⟩
                · replace H := iteF hb99 H
                  refine HT_false (congrArg Value.bool hb99) ?_
                  refine HT_skip ?_
                  refine hK89 _ _ ?_
                  refine HT_seq_k ?_
                  intro K101 hK101
                  refine HT_region ?_
                  refine HL_cons rfl ?_
                  refine o_assign ?_
                  try dsimp only [putL, setL, evL, getL]
                  refine HL_nil ?_
                  refine hK101 _ _ ?_
                  refine HT_seq_k ?_
                  intro K102 hK102
                  refine HT_region ?_
                  refine HL_cons rfl ?_
                  refine o_loads' [.int .i64 u32.1, .int .i64 u32.2.1, .slice A33 u32.2.2.1.length c33, .int .i64 u32.2.2.2.1, .int .i64 u32.2.2.2.2.1] rfl Try.underlying55 rfl tI55 rfl (hH.partv 4 rfl (0) [.int .i64 u32.1, .int .i64 u32.2.1, .slice A33 u32.2.2.1.length c33, .int .i64 u32.2.2.2.1, .int .i64 u32.2.2.2.2.1] rfl) ?_
                  try dsimp only [putL, setL, evL, getL]
                  refine HL_cons rfl ?_
                  refine o_move ?_
                  try dsimp only [putL, setL, evL, getL]
                  obtain ⟨u103, hu103, H⟩ := headE H
                  obtain ⟨F1, hA, hB⟩ := hH.take [1] (by decide)
                  dsimp only [addC, setC, rmC, selC, getC] at hA
                  refine HL_cons rfl ?_
                  refine o_call (args := #[.agg #[.int .i64 u32.1, .int .i64 u32.2.1, .slice A33 u32.2.2.1.length c33, .int .i64 u32.2.2.2.1, .int .i64 u32.2.2.2.2.1], .int .i64 1]) Try.func76 rfl rfl rfl (laws_markScreen.ok sb s98 F1 u32.1 u32.2.1 A33 c33 u32.2.2.1 u32.2.2.2.1 u32.2.2.2.2.1 1 hA _ hu103) ?_
                  rintro _ s103 ⟨rfl, hD, hl104⟩
                  replace hH := hB _ _ _ (Up.refl _ _ _) hD
                  clear hD hA hB
                  dsimp only [addC, setC, rmC, selC, getC] at hH
                  try dsimp only [putL, setL, evL, getL]
                  refine HL_cons rfl ?_
                  refine o_assign ?_
                  try dsimp only [putL, setL, evL, getL]
                  refine HL_nil ?_
                  refine hK102 _ _ ?_
                  refine HT_seq_k ?_
                  intro K105 hK105
                  refine HT_region ?_
                  refine HL_cons rfl ?_
                  refine o_assign ?_
                  try dsimp only [putL, setL, evL, getL]
                  refine HL_nil ?_
                  refine hK105 _ _ ?_
                  refine HT_seq_k ?_
                  intro K106 hK106
                  refine HT_region ?_
                  refine HL_cons rfl ?_
                  refine o_loads' [.int .i64 u32.1, .int .i64 u32.2.1, .slice A33 u32.2.2.1.length c33, .int .i64 u32.2.2.2.1, .int .i64 u32.2.2.2.2.1] rfl Try.underlying55 rfl tI55 rfl (hH.partv 4 rfl (0) [.int .i64 u32.1, .int .i64 u32.2.1, .slice A33 u32.2.2.1.length c33, .int .i64 u32.2.2.2.1, .int .i64 u32.2.2.2.2.1] rfl) ?_
                  try dsimp only [putL, setL, evL, getL]
                  refine HL_cons rfl ?_
                  refine o_move ?_
                  try dsimp only [putL, setL, evL, getL]
                  obtain ⟨u107, hu107, H⟩ := headE H
                  refine HL_cons rfl ?_
                  refine o_call (args := #[.agg #[.int .i64 u32.1, .int .i64 u32.2.1, .slice A33 u103.2.length c33, .int .i64 u32.2.2.2.1, .int .i64 u32.2.2.2.2.1], .int .i64 1]) Try.func77 rfl rfl (by show ([.agg #[.int .i64 u32.1, .int .i64 u32.2.1, .slice A33 u32.2.2.1.length c33, .int .i64 u32.2.2.2.1, .int .i64 u32.2.2.2.2.1], .int .i64 1] : List Value) = [.agg #[.int .i64 u32.1, .int .i64 u32.2.1, .slice A33 u103.2.length c33, .int .i64 u32.2.2.2.1, .int .i64 u32.2.2.2.2.1], .int .i64 1]; rw [hl104]; first | done | rfl) (laws_heldScreen.ok s103 s103 no u32.1 u32.2.1 A33 c33 u103.2 u32.2.2.2.1 u32.2.2.2.2.1 1 (hH.rd 5 rfl) (Hp.own (Bs.refl s103)) _ hu107) ?_
                  rintro _ s107 ⟨rfl, hD⟩
                  replace hH := hH.back0T hD
                  clear hD
                  dsimp only [addC, setC, rmC, selC, getC] at hH
                  try dsimp only [putL, setL, evL, getL]
                  refine HL_cons rfl ?_
                  refine o_assign ?_
                  try dsimp only [putL, setL, evL, getL]
                  refine HL_nil ?_
                  refine hK106 _ _ ?_
                  refine HT_seq_k ?_
                  intro K108 hK108
                  refine HT_seq_k ?_
                  intro K109 hK109
                  refine HT_region ?_
                  refine HL_cons rfl ?_
                  refine o_move ?_
                  try dsimp only [putL, setL, evL, getL]
                  refine HL_cons rfl ?_
                  refine o_bin rfl rfl rfl ?_
                  try dsimp only [putL, setL, evL, getL]
                  refine HL_nil ?_
                  refine hK109 _ _ ?_
                  rcases Bool.eq_false_or_eq_true (decide (u107 < 0)) with hb110 | hb110
                  · replace H := iteT hb110 H
                    refine HT_true (congrArg Value.bool hb110) ?_
                    refine HT_seq_k ?_
                    intro K111 hK111
                    refine HT_region ?_
                    refine HL_cons rfl ?_
                    refine o_assign ?_
                    try dsimp only [putL, setL, evL, getL]
                    refine HL_nil ?_
                    refine hK111 _ _ ?_
                    refine HT_ret ?_
                    obtain rfl := Option.some.inj (show some _ = some r from H)
                    exact hQr _ _ [.bool false] ⟨rfl, trivial⟩ ⟨rfl, hH.sel [] (by decide)⟩
                  · replace H := iteF hb110 H
                    refine HT_false (congrArg Value.bool hb110) ?_
                    refine HT_skip ?_
                    refine hK108 _ _ ?_
                    refine HT_seq_k ?_
                    intro K112 hK112
                    refine HT_seq_k ?_
                    intro K113 hK113
                    refine HT_region ?_
                    refine HL_cons rfl ?_
                    refine o_move ?_
                    try dsimp only [putL, setL, evL, getL]
                    refine HL_cons rfl ?_
                    refine o_move ?_
                    try dsimp only [putL, setL, evL, getL]
                    refine HL_cons rfl ?_
                    refine o_bin rfl rfl rfl ?_
                    try dsimp only [putL, setL, evL, getL]
                    refine HL_nil ?_
                    refine hK113 _ _ ?_
                    rcases Bool.eq_false_or_eq_true (u107 != u103.1) with hb114 | hb114
                    · replace H := iteT hb114 H
                      refine HT_true (congrArg Value.bool hb114) ?_
                      refine HT_seq_k ?_
                      intro K115 hK115
                      refine HT_region ?_
                      refine HL_cons rfl ?_
                      refine o_assign ?_
                      try dsimp only [putL, setL, evL, getL]
                      refine HL_nil ?_
                      refine hK115 _ _ ?_
                      refine HT_ret ?_
                      obtain rfl := Option.some.inj (show some _ = some r from H)
                      exact hQr _ _ [.bool false] ⟨rfl, trivial⟩ ⟨rfl, hH.sel [] (by decide)⟩
                    · replace H := iteF hb114 H
                      refine HT_false (congrArg Value.bool hb114) ?_
                      refine HT_skip ?_
                      refine hK112 _ _ ?_
                      refine HT_seq_k ?_
                      intro K116 hK116
                      refine HT_region ?_
                      refine HL_cons rfl ?_
                      refine o_loads' [.int .i64 p0_0, .int .i64 p0_1, .slice A0_2p p0_2.length c0_2p, .int .i64 p0_3, .int .i64 p0_4] rfl Try.underlying51 rfl tI51 rfl (hH.partv 2 rfl (0) [.int .i64 p0_0, .int .i64 p0_1, .slice A0_2p p0_2.length c0_2p, .int .i64 p0_3, .int .i64 p0_4] rfl) ?_
                      try dsimp only [putL, setL, evL, getL]
                      obtain ⟨u117, hu117, H⟩ := headE H
                      refine HL_cons rfl ?_
                      refine o_call (args := #[.agg #[.int .i64 p0_0, .int .i64 p0_1, .slice A0_2p p0_2.length c0_2p, .int .i64 p0_3, .int .i64 p0_4]]) Try.func41 rfl rfl rfl (laws_toScreen.ok sb s107 no p0_0 p0_1 A0_2p c0_2p p0_2 p0_3 p0_4 HRp0_2 (Hp.own hH.bs) _ hu117) ?_
                      rintro _ s117 ⟨A118, c118, rfl, hD⟩
                      replace hH := hH.back0 hD (Up.refl _ _ _)
                      clear hD
                      dsimp only [addC, setC, rmC, selC, getC] at hH
                      try dsimp only [putL, setL, evL, getL]
                      refine HL_cons rfl ?_
                      refine o_move ?_
                      try dsimp only [putL, setL, evL, getL]
                      obtain ⟨u119, hu119, H⟩ := headE H
                      refine HL_cons rfl ?_
                      refine o_call (args := #[.slice A1p p1.length c1p]) Try.func16 rfl rfl rfl (laws_toIntS.ok sb s117 no A1p c1p p1 HRp1 (Hp.own hH.bs) _ hu119) ?_
                      rintro _ s119 ⟨A120, c120, rfl, hD⟩
                      replace hH := hH.back0 hD (Up.refl _ _ _)
                      clear hD
                      dsimp only [addC, setC, rmC, selC, getC] at hH
                      try dsimp only [putL, setL, evL, getL]
                      obtain ⟨u121, hu121, H⟩ := headE H
                      refine HL_cons rfl ?_
                      refine o_call (args := #[.agg #[.int .i64 u117.1, .int .i64 u117.2.1, .slice A118 u117.2.2.1.length c118, .int .i64 u117.2.2.2.1, .int .i64 u117.2.2.2.2], .slice A120 u119.length c120]) Try.func79 rfl rfl rfl (impl_PutRunes.ok s119 s119 no u117.1 u117.2.1 A118 c118 u117.2.2.1 u117.2.2.2.1 u117.2.2.2.2 A120 c120 u119 (hH.rd 6 rfl) (hH.rd 7 rfl) (Hp.own (Bs.refl s119)) _ hu121) ?_
                      rintro _ s121 ⟨A122, c122, rfl, hD⟩
                      replace hH := hH.back0T hD
                      clear hD
                      dsimp only [addC, setC, rmC, selC, getC] at hH
                      try dsimp only [putL, setL, evL, getL]
                      refine HL_cons rfl ?_
                      refine o_move ?_
                      try dsimp only [putL, setL, evL, getL]
                      refine HL_cons rfl ?_
                      refine o_extract rfl rfl ?_
                      try dsimp only [putL, setL, evL, getL]
                      refine HL_cons rfl ?_
                      refine o_extract rfl rfl ?_
                      try dsimp only [putL, setL, evL, getL]
                      refine HL_cons rfl ?_
                      refine o_allocH hH tI55 ?_
                      intro b123 s123 hH' hG
                      replace hH : Hp sb s F0 s123 [Ck.ol OI 3 A20 c20 u19.2.2.1, Ck.emp, Ck.ov b2 [.int .i64 p0_0, .int .i64 p0_1, .slice A0_2p p0_2.length c0_2p, .int .i64 p0_3, .int .i64 p0_4] 51, Ck.ov b21 [.int .i64 u19.1, .int .i64 u19.2.1, .slice A20 u19.2.2.1.length c20, .int .i64 u19.2.2.2.1, .int .i64 u19.2.2.2.2.1] 55, Ck.ov b34 [.int .i64 u32.1, .int .i64 u32.2.1, .slice A33 u32.2.2.1.length c33, .int .i64 u32.2.2.2.1, .int .i64 u32.2.2.2.2.1] 55, Ck.ol OI 3 A33 c33 u103.2, Ck.ol OI 3 A118 c118 u117.2.2.1, Ck.ol OI 3 A120 c120 u119, Ck.ol OI 3 A122 c122 u121.2.2.1, Ck.ov b123 [.int .i64 0, .int .i64 0, .slice none 0 0, .int .i64 0, .int .i64 0] 55] := hH'
                      clear hH' hG
                      try dsimp only [putL, setL, evL, getL]
                      refine HL_cons rfl ?_
                      refine o_stvH (vs := [.int .i64 u121.1, .int .i64 u121.2.1, .slice A122 u121.2.2.1.length c122, .int .i64 u121.2.2.2.1, .int .i64 u121.2.2.2.2.1]) (us' := [.int .i64 u121.1, .int .i64 u121.2.1, .slice A122 u121.2.2.1.length c122, .int .i64 u121.2.2.2.1, .int .i64 u121.2.2.2.2.1]) hH 9 rfl rfl rfl rfl rfl tI55 rfl (List.cons_ne_nil _ _) rfl rfl rfl ?_
                      intro s124 hH'
                      replace hH : Hp sb s F0 s124 [Ck.ol OI 3 A20 c20 u19.2.2.1, Ck.emp, Ck.ov b2 [.int .i64 p0_0, .int .i64 p0_1, .slice A0_2p p0_2.length c0_2p, .int .i64 p0_3, .int .i64 p0_4] 51, Ck.ov b21 [.int .i64 u19.1, .int .i64 u19.2.1, .slice A20 u19.2.2.1.length c20, .int .i64 u19.2.2.2.1, .int .i64 u19.2.2.2.2.1] 55, Ck.ov b34 [.int .i64 u32.1, .int .i64 u32.2.1, .slice A33 u32.2.2.1.length c33, .int .i64 u32.2.2.2.1, .int .i64 u32.2.2.2.2.1] 55, Ck.ol OI 3 A33 c33 u103.2, Ck.ol OI 3 A118 c118 u117.2.2.1, Ck.ol OI 3 A120 c120 u119, Ck.ol OI 3 A122 c122 u121.2.2.1, Ck.ov b123 [.int .i64 u121.1, .int .i64 u121.2.1, .slice A122 u121.2.2.1.length c122, .int .i64 u121.2.2.2.1, .int .i64 u121.2.2.2.2.1] 55] := hH'
                      clear hH'
                      try dsimp only [putL, setL, evL, getL]
                      refine HL_cons rfl ?_
                      refine o_assign ?_
                      try dsimp only [putL, setL, evL, getL]
                      refine HL_nil ?_
                      refine hK116 _ _ ?_
                      refine HT_seq_k ?_
                      intro K135 hK135
                      refine joinH H fun G136 hG136 H => ?_
                      refine HT_joinK (fun l' s' => ∃ (x139 : Bool), G136 x139 = some r ∧ l' = [.agg #[.int .i64 p0_0, .int .i64 p0_1, .slice A0_2p p0_2.length c0_2p, .int .i64 p0_3, .int .i64 p0_4], .slice A1p p1.length c1p, .pointer (some ⟨b2, 0, none⟩), undef, .bool false, .int .i64 u9, .pointer (some ⟨b21, 0, none⟩), .bool u19.2.2.2.2.2, .pointer (some ⟨b26, 0, none⟩), .slice A30 u29.length c30, .pointer (some ⟨b34, 0, none⟩), .bool u32.2.2.2.2.2, .int .i64 u75.1, .int .i64 u103.1, .int .i64 u107, .pointer (some ⟨b123, 0, none⟩), .bool u121.2.2.2.2.2, .slice A1p p1.length c1p, .int .i64 (p1.length : Int), .bool (decide ((p1.length : Int) > 1048576)), .agg #[.int .i64 p0_0, .int .i64 p0_1, .slice A0_2p p0_2.length c0_2p, .int .i64 p0_3, .int .i64 p0_4], .int .i64 1048576, .int .i64 u9, .int .i64 u9, .bool (decide (u9 < 0)), .tuple #[.agg #[.int .i64 u19.1, .int .i64 u19.2.1, .slice A20 u19.2.2.1.length c20, .int .i64 u19.2.2.2.1, .int .i64 u19.2.2.2.2.1], .bool u19.2.2.2.2.2], .agg #[.int .i64 p0_0, .int .i64 p0_1, .slice A0_2p p0_2.length c0_2p, .int .i64 p0_3, .int .i64 p0_4], .agg #[.int .i64 u15.1, .int .i64 u15.2.1, .slice A16 u15.2.2.1.length c16, .int .i64 u15.2.2.2.1, .int .i64 u15.2.2.2.2], .slice A1p p1.length c1p, .slice A18 u17.length c18, .tuple #[.agg #[.int .i64 u19.1, .int .i64 u19.2.1, .slice A20 u19.2.2.1.length c20, .int .i64 u19.2.2.2.1, .int .i64 u19.2.2.2.2.1], .bool u19.2.2.2.2.2], .agg #[.int .i64 u19.1, .int .i64 u19.2.1, .slice A20 u19.2.2.1.length c20, .int .i64 u19.2.2.2.1, .int .i64 u19.2.2.2.2.1], .bool u19.2.2.2.2.2, .agg #[.int .i64 p0_0, .int .i64 p0_1, .slice A0_2p p0_2.length c0_2p, .int .i64 p0_3, .int .i64 p0_4], .agg #[.int .i64 u24.1, .int .i64 u24.2.1, .slice A25 u24.2.2.1.length c25, .int .i64 u24.2.2.2.1, .int .i64 u24.2.2.2.2], .slice A1p p1.length c1p, .slice A30 u29.length c30, .tuple #[.agg #[.int .i64 u32.1, .int .i64 u32.2.1, .slice A33 u32.2.2.1.length c33, .int .i64 u32.2.2.2.1, .int .i64 u32.2.2.2.2.1], .bool u32.2.2.2.2.2], .agg #[.int .i64 u24.1, .int .i64 u24.2.1, .slice A25 u24.2.2.1.length c25, .int .i64 u24.2.2.2.1, .int .i64 u24.2.2.2.2], .slice A30 u29.length c30, .tuple #[.agg #[.int .i64 u32.1, .int .i64 u32.2.1, .slice A33 u32.2.2.1.length c33, .int .i64 u32.2.2.2.1, .int .i64 u32.2.2.2.2.1], .bool u32.2.2.2.2.2], .agg #[.int .i64 u32.1, .int .i64 u32.2.1, .slice A33 u32.2.2.1.length c33, .int .i64 u32.2.2.2.1, .int .i64 u32.2.2.2.2.1], .bool u32.2.2.2.2.2, j43, j44, j45, j46, j47, j48, j49, j50, .bool x50, .agg #[.int .i64 u24.1, .int .i64 u24.2.1, .slice A25 u24.2.2.1.length c25, .int .i64 u24.2.2.2.1, .int .i64 u24.2.2.2.2], .agg #[.int .i64 p0_0, .int .i64 p0_1, .slice A0_2p p0_2.length c0_2p, .int .i64 p0_3, .int .i64 p0_4], .agg #[.int .i64 u58.1, .int .i64 u58.2.1, .slice A59 u58.2.2.1.length c59, .int .i64 u58.2.2.2.1, .int .i64 u58.2.2.2.2], .bool u60, .bool (!u60), .slice A30 u29.length c30, .slice A1p p1.length c1p, .slice A66 u65.length c66, .bool u67, .bool (!u67), .agg #[.int .i64 u24.1, .int .i64 u24.2.1, .slice A25 u24.2.2.1.length c25, .int .i64 u24.2.2.2.1, .int .i64 u24.2.2.2.2], .int .i64 1, .int .i64 u72.1, .slice A30 u29.length c30, .int .i64 u72.1, .int .i64 u75.1, j68, j69, j70, j71, j72, j73, j74, j75, j76, j77, j78, j79, .bool x94, .agg #[.int .i64 u32.1, .int .i64 u32.2.1, .slice A33 u32.2.2.1.length c33, .int .i64 u32.2.2.2.1, .int .i64 u32.2.2.2.2.1], .int .i64 1, .int .i64 u103.1, .agg #[.int .i64 u32.1, .int .i64 u32.2.1, .slice A33 u32.2.2.1.length c33, .int .i64 u32.2.2.2.1, .int .i64 u32.2.2.2.2.1], .int .i64 1, .int .i64 u107, .int .i64 u107, .bool (decide (u107 < 0)), .int .i64 u107, .int .i64 u103.1, .bool (u107 != u103.1), .tuple #[.agg #[.int .i64 u121.1, .int .i64 u121.2.1, .slice A122 u121.2.2.1.length c122, .int .i64 u121.2.2.2.1, .int .i64 u121.2.2.2.2.1], .bool u121.2.2.2.2.2], .agg #[.int .i64 p0_0, .int .i64 p0_1, .slice A0_2p p0_2.length c0_2p, .int .i64 p0_3, .int .i64 p0_4], .agg #[.int .i64 u117.1, .int .i64 u117.2.1, .slice A118 u117.2.2.1.length c118, .int .i64 u117.2.2.2.1, .int .i64 u117.2.2.2.2], .slice A1p p1.length c1p, .slice A120 u119.length c120, .tuple #[.agg #[.int .i64 u121.1, .int .i64 u121.2.1, .slice A122 u121.2.2.1.length c122, .int .i64 u121.2.2.2.1, .int .i64 u121.2.2.2.2.1], .bool u121.2.2.2.2.2], .agg #[.int .i64 u121.1, .int .i64 u121.2.1, .slice A122 u121.2.2.1.length c122, .int .i64 u121.2.2.2.1, .int .i64 u121.2.2.2.2.1], .bool u121.2.2.2.2.2, getL l' 100, getL l' 101, getL l' 102, getL l' 103, getL l' 104, getL l' 105, getL l' 106, getL l' 107, .bool x139, undef, undef, undef, undef, undef, undef, undef, undef] ∧ Hp sb s F0 s' [Ck.ol OI 3 A33 c33 u103.2, Ck.ov b34 [.int .i64 u32.1, .int .i64 u32.2.1, .slice A33 u32.2.2.1.length c33, .int .i64 u32.2.2.2.1, .int .i64 u32.2.2.2.2.1] 55]) ?_ ?_
                      · intro K136 hK136
                        refine HT_region ?_
                        refine HL_cons rfl ?_
                        refine o_loads' [.int .i64 u121.1, .int .i64 u121.2.1, .slice A122 u121.2.2.1.length c122, .int .i64 u121.2.2.2.1, .int .i64 u121.2.2.2.2.1] rfl Try.underlying55 rfl tI55 rfl (hH.partv 9 rfl (0) [.int .i64 u121.1, .int .i64 u121.2.1, .slice A122 u121.2.2.1.length c122, .int .i64 u121.2.2.2.1, .int .i64 u121.2.2.2.2.1] rfl) ?_
                        try dsimp only [putL, setL, evL, getL]
                        refine HL_cons rfl ?_
                        refine o_loads' [.int .i64 u19.1, .int .i64 u19.2.1, .slice A20 u19.2.2.1.length c20, .int .i64 u19.2.2.2.1, .int .i64 u19.2.2.2.2.1] rfl Try.underlying55 rfl tI55 rfl (hH.partv 3 rfl (0) [.int .i64 u19.1, .int .i64 u19.2.1, .slice A20 u19.2.2.1.length c20, .int .i64 u19.2.2.2.1, .int .i64 u19.2.2.2.2.1] rfl) ?_
                        try dsimp only [putL, setL, evL, getL]
                        obtain ⟨u140, hu140, H⟩ := headE H
                        refine HL_cons rfl ?_
                        refine o_call (args := #[.agg #[.int .i64 u121.1, .int .i64 u121.2.1, .slice A122 u121.2.2.1.length c122, .int .i64 u121.2.2.2.1, .int .i64 u121.2.2.2.2.1], .agg #[.int .i64 u19.1, .int .i64 u19.2.1, .slice A20 u19.2.2.1.length c20, .int .i64 u19.2.2.2.1, .int .i64 u19.2.2.2.2.1]]) Try.func43 rfl rfl rfl (laws_eqScreen.ok s124 s124 no u121.1 u121.2.1 A122 c122 u121.2.2.1 u121.2.2.2.1 u121.2.2.2.2.1 u19.1 u19.2.1 A20 c20 u19.2.2.1 u19.2.2.2.1 u19.2.2.2.2.1 (hH.rd 8 rfl) (hH.rd 0 rfl) (Hp.own (Bs.refl s124)) _ hu140) ?_
                        rintro _ s140 ⟨rfl, hD⟩
                        replace hH := hH.back0T hD
                        clear hD
                        dsimp only [addC, setC, rmC, selC, getC] at hH
                        try dsimp only [putL, setL, evL, getL]
                        refine HL_cons rfl ?_
                        refine o_not rfl ?_
                        try dsimp only [putL, setL, evL, getL]
                        refine HL_cons rfl ?_
                        refine o_move ?_
                        try dsimp only [putL, setL, evL, getL]
                        rcases Bool.eq_false_or_eq_true (!u140) with hb141 | hb141
                        · replace H := iteT hb141 H
                          refine HL_skip ?_ ?_
                          · exact wantF (j := 4) (b := false) (t := 104) (c := !u140) rfl rfl rfl rfl hb141
                          try dsimp only [putL, setL, evL, getL]
                          refine HL_skip ?_ ?_
                          · exact wantF (j := 4) (b := false) (t := 104) (c := !u140) rfl rfl rfl rfl hb141
                          try dsimp only [putL, setL, evL, getL]
                          refine HL_skip ?_ ?_
                          · exact wantF (j := 4) (b := false) (t := 104) (c := !u140) rfl rfl rfl rfl hb141
                          try dsimp only [putL, setL, evL, getL]
                          refine HL_cons rfl ?_
                          refine o_pickT rfl hb141 ?_
                          try dsimp only [putL, setL, evL, getL]
                          refine HL_nil ?_
                          exact hK136 _ _ ⟨true, H, rfl, (by first | exact hH.sel [5, 4] (by decide) | (rw [hl104]; exact hH.sel [5, 4] (by decide)))⟩
                        · replace H := iteF hb141 H
                          refine HL_want ?_ ?_
                          · exact wantT (j := 4) (b := false) (t := 104) (c := !u140) rfl rfl rfl rfl hb141
                          refine o_move ?_
                          try dsimp only [putL, setL, evL, getL]
                          refine HL_want ?_ ?_
                          · exact wantT (j := 4) (b := false) (t := 104) (c := !u140) rfl rfl rfl rfl hb141
                          refine o_move ?_
                          try dsimp only [putL, setL, evL, getL]
                          refine HL_want ?_ ?_
                          · exact wantT (j := 4) (b := false) (t := 104) (c := !u140) rfl rfl rfl rfl hb141
                          refine o_neb rfl rfl Try.underlying4 ?_
                          try dsimp only [putL, setL, evL, getL]
                          refine HL_cons rfl ?_
                          refine o_pickF rfl hb141 ?_
                          try dsimp only [putL, setL, evL, getL]
                          refine HL_nil ?_
                          exact hK136 _ _ ⟨u121.2.2.2.2.2 != u19.2.2.2.2.2, H, rfl, (by first | exact hH.sel [5, 4] (by decide) | (rw [hl104]; exact hH.sel [5, 4] (by decide)))⟩
                      · rintro l' s142 ⟨x139, H, hl, hH⟩
                        generalize getL l' 100 = j100, getL l' 101 = j101, getL l' 102 = j102, getL l' 103 = j103, getL l' 104 = j104, getL l' 105 = j105, getL l' 106 = j106, getL l' 107 = j107 at hl
                        subst hl
                        replace H := hG136 _ H
                        try dsimp only at H
                        rcases Bool.eq_false_or_eq_true x139 with hb143 | hb143
                        · replace H := iteT hb143 H
                          refine HT_true (congrArg Value.bool hb143) ?_
                          refine HT_seq_k ?_
                          intro K144 hK144
                          refine HT_region ?_
                          refine HL_cons rfl ?_
                          refine o_assign ?_
                          try dsimp only [putL, setL, evL, getL]
                          refine HL_nil ?_
                          refine hK144 _ _ ?_
                          refine HT_ret ?_
                          obtain rfl := Option.some.inj (show some _ = some r from H)
                          exact hQr _ _ [.bool false] ⟨rfl, trivial⟩ ⟨rfl, hH.sel [] (by decide)⟩
                        · replace H := iteF hb143 H
                          refine HT_false (congrArg Value.bool hb143) ?_
                          refine HT_skip ?_
                          refine hK135 _ _ ?_
                          refine HT_seq_k ?_
                          intro K145 hK145
                          refine HT_region ?_
                          refine HL_cons rfl ?_
                          refine o_assign ?_
                          try dsimp only [putL, setL, evL, getL]
                          refine HL_nil ?_
                          refine hK145 _ _ ?_
                          refine HT_seq_k ?_
                          intro K146 hK146
                          refine HT_region ?_
                          refine HL_cons rfl ?_
                          refine o_loads' [.int .i64 u32.1, .int .i64 u32.2.1, .slice A33 u32.2.2.1.length c33, .int .i64 u32.2.2.2.1, .int .i64 u32.2.2.2.2.1] rfl Try.underlying55 rfl tI55 rfl (hH.partv 1 rfl (0) [.int .i64 u32.1, .int .i64 u32.2.1, .slice A33 u32.2.2.1.length c33, .int .i64 u32.2.2.2.1, .int .i64 u32.2.2.2.2.1] rfl) ?_
                          try dsimp only [putL, setL, evL, getL]
                          refine HL_cons rfl ?_
                          refine o_move ?_
                          try dsimp only [putL, setL, evL, getL]
                          obtain ⟨u147, hu147, H⟩ := headE H
                          refine HL_cons rfl ?_
                          refine o_call (args := #[.agg #[.int .i64 u32.1, .int .i64 u32.2.1, .slice A33 u103.2.length c33, .int .i64 u32.2.2.2.1, .int .i64 u32.2.2.2.2.1], .int .i64 1]) Try.func77 rfl rfl (by show ([.agg #[.int .i64 u32.1, .int .i64 u32.2.1, .slice A33 u32.2.2.1.length c33, .int .i64 u32.2.2.2.1, .int .i64 u32.2.2.2.2.1], .int .i64 1] : List Value) = [.agg #[.int .i64 u32.1, .int .i64 u32.2.1, .slice A33 u103.2.length c33, .int .i64 u32.2.2.2.1, .int .i64 u32.2.2.2.2.1], .int .i64 1]; rw [hl104]; first | done | rfl) (laws_heldScreen.ok s142 s142 no u32.1 u32.2.1 A33 c33 u103.2 u32.2.2.2.1 u32.2.2.2.2.1 1 (hH.rd 0 rfl) (Hp.own (Bs.refl s142)) _ hu147) ?_
                          rintro _ s147 ⟨rfl, hD⟩
                          replace hH := hH.back0T hD
                          clear hD
                          dsimp only [addC, setC, rmC, selC, getC] at hH
                          try dsimp only [putL, setL, evL, getL]
                          refine HL_cons rfl ?_
                          refine o_assign ?_
                          try dsimp only [putL, setL, evL, getL]
                          refine HL_nil ?_
                          refine hK146 _ _ ?_
                          refine HT_seq_k ?_
                          intro K148 hK148
                          refine HT_seq_k ?_
                          intro K149 hK149
                          refine HT_region ?_
                          refine HL_cons rfl ?_
                          refine o_move ?_
                          try dsimp only [putL, setL, evL, getL]
                          refine HL_cons rfl ?_
                          refine o_bin rfl rfl rfl ?_
                          try dsimp only [putL, setL, evL, getL]
                          refine HL_nil ?_
                          refine hK149 _ _ ?_
                          rcases Bool.eq_false_or_eq_true (decide (u147 < 0)) with hb150 | hb150
                          · replace H := iteT hb150 H
                            refine HT_true (congrArg Value.bool hb150) ?_
                            refine HT_seq_k ?_
                            intro K151 hK151
                            refine HT_region ?_
                            refine HL_cons rfl ?_
                            refine o_assign ?_
                            try dsimp only [putL, setL, evL, getL]
                            refine HL_nil ?_
                            refine hK151 _ _ ?_
                            refine HT_ret ?_
                            obtain rfl := Option.some.inj (show some _ = some r from H)
                            exact hQr _ _ [.bool false] ⟨rfl, trivial⟩ ⟨rfl, hH.sel [] (by decide)⟩
                          · replace H := iteF hb150 H
                            refine HT_false (congrArg Value.bool hb150) ?_
                            refine HT_skip ?_
                            refine hK148 _ _ ?_
                            refine HT_seq_k ?_
                            intro K152 hK152
                            refine HT_seq_k ?_
                            intro K153 hK153
                            refine HT_region ?_
                            refine HL_cons rfl ?_
                            refine o_move ?_
                            try dsimp only [putL, setL, evL, getL]
                            refine HL_cons rfl ?_
                            refine o_move ?_
                            try dsimp only [putL, setL, evL, getL]
                            refine HL_cons rfl ?_
                            refine o_bin rfl rfl rfl ?_
                            try dsimp only [putL, setL, evL, getL]
                            refine HL_nil ?_
                            refine hK153 _ _ ?_
                            rcases Bool.eq_false_or_eq_true (u147 != u103.1) with hb154 | hb154
                            · replace H := iteT hb154 H
                              refine HT_true (congrArg Value.bool hb154) ?_
                              refine HT_seq_k ?_
                              intro K155 hK155
                              refine HT_region ?_
                              refine HL_cons rfl ?_
                              refine o_assign ?_
                              try dsimp only [putL, setL, evL, getL]
                              refine HL_nil ?_
                              refine hK155 _ _ ?_
                              refine HT_ret ?_
                              obtain rfl := Option.some.inj (show some _ = some r from H)
                              exact hQr _ _ [.bool false] ⟨rfl, trivial⟩ ⟨rfl, hH.sel [] (by decide)⟩
                            · replace H := iteF hb154 H
                              refine HT_false (congrArg Value.bool hb154) ?_
                              refine HT_skip ?_
                              refine hK152 _ _ ?_
                              refine HT_seq_k ?_
                              intro K156 hK156
                              refine HT_region ?_
                              refine HL_cons rfl ?_
                              refine o_assign ?_
                              try dsimp only [putL, setL, evL, getL]
                              refine HL_nil ?_
                              refine hK156 _ _ ?_
                              refine HT_ret ?_
                              obtain rfl := Option.some.inj (show some _ = some r from H)
                              exact hQr _ _ [.bool true] ⟨rfl, trivial⟩ ⟨rfl, hH.sel [] (by decide)⟩
end Go.Proofs.Ytopecknfnhocpaa
