/- The functions that the law reaches, as plain functions, each with its contract: printed by a program of the prover's. No conditions: lemmas. -/
import Derived.Test.YtopecknfnhocpaaWPutRune1
set_option linter.unusedVariables false
set_option linter.unusedSimpArgs false
namespace Go.Proofs.Ytopecknfnhocpaa
open Go Go.Proofs.GL
def laws_eqScreen.f (p0_0 : Int) (p0_1 : Int) (p0_2 : List (Int)) (p0_3 : Int) (p0_4 : Int) (p1_0 : Int) (p1_1 : Int) (p1_2 : List (Int)) (p1_3 : Int) (p1_4 : Int) : Option Bool := if (p0_0 != p1_0) = true then (some false) else (if (p0_1 != p1_1) = true then (some false) else ((laws_eqIntS.f p0_2 p1_2).bind fun u14 => if (!u14) = true then (some false) else (if (p0_3 != p1_3) = true then (some false) else (if (p0_4 != p1_4) = true then (some false) else (some true)))))
def laws_eqScreen.post (sb s : St) (F0 : Fp) (r : Bool) : Value → St → Prop := fun v s' => v = .bool r ∧ Hp sb s F0 s' []
set_option maxRecDepth 100000 in
set_option maxHeartbeats 4000000 in
theorem laws_eqScreen.ok (sb s : St) (F0 : Fp) (p0_0 : Int) (p0_1 : Int) (A0_2p : Option Addr) (c0_2p : Nat) (p0_2 : List (Int)) (p0_3 : Int) (p0_4 : Int) (p1_0 : Int) (p1_1 : Int) (A1_2p : Option Addr) (c1_2p : Nat) (p1_2 : List (Int)) (p1_3 : Int) (p1_4 : Int) (HRp0_2 : Rd KI sb A0_2p c0_2p p0_2) (HRp1_2 : Rd KI sb A1_2p c1_2p p1_2) (hH : Hp sb s F0 s []) (r : Bool) (H : laws_eqScreen.f p0_0 p0_1 p0_2 p0_3 p0_4 p1_0 p1_1 p1_2 p1_3 p1_4 = some r) : GCall Try.prog 43 #[.agg #[.int .i64 p0_0, .int .i64 p0_1, .slice A0_2p p0_2.length c0_2p, .int .i64 p0_3, .int .i64 p0_4], .agg #[.int .i64 p1_0, .int .i64 p1_1, .slice A1_2p p1_2.length c1_2p, .int .i64 p1_3, .int .i64 p1_4]] s (laws_eqScreen.post sb s F0 r) := by
  refine GCall_ofk [.tmp 4] [.agg #[.int .i64 p0_0, .int .i64 p0_1, .slice A0_2p p0_2.length c0_2p, .int .i64 p0_3, .int .i64 p0_4], .agg #[.int .i64 p1_0, .int .i64 p1_1, .slice A1_2p p1_2.length c1_2p, .int .i64 p1_3, .int .i64 p1_4], undef, undef, undef, undef, undef, undef, undef, undef, undef, undef, undef, undef, undef, undef, undef, undef, undef, undef, undef, undef, undef, undef, undef, undef, undef, undef, undef, undef, undef] Try.func43 rfl rfl rfl ?_
  intro w Q hQr hQn hQp
  replace H := topE H
  unfold laws_eqScreen.f at H
  refine HT_seq_k ?_
  intro K1 hK1
  refine HT_region ?_
  refine HL_cons rfl ?_
  refine o_boxH hH rfl ?_
  intro b2 s2 hH' hG
  replace hH : Hp sb s F0 s2 [Ck.ov b2 [.int .i64 p0_0, .int .i64 p0_1, .slice A0_2p p0_2.length c0_2p, .int .i64 p0_3, .int .i64 p0_4] 55] := hH'
  clear hH' hG
  try dsimp only [putL, setL, evL, getL]
  refine HL_cons rfl ?_
  refine o_boxH hH rfl ?_
  intro b3 s3 hH' hG
  replace hH : Hp sb s F0 s3 [Ck.ov b2 [.int .i64 p0_0, .int .i64 p0_1, .slice A0_2p p0_2.length c0_2p, .int .i64 p0_3, .int .i64 p0_4] 55, Ck.ov b3 [.int .i64 p1_0, .int .i64 p1_1, .slice A1_2p p1_2.length c1_2p, .int .i64 p1_3, .int .i64 p1_4] 55] := hH'
  clear hH' hG
  try dsimp only [putL, setL, evL, getL]
  refine HL_cons rfl ?_
  refine o_assign ?_
  try dsimp only [putL, setL, evL, getL]
  refine HL_nil ?_
  refine hK1 _ _ ?_
  refine HT_seq_k ?_
  intro K4 hK4
  refine HT_seq_k ?_
  intro K5 hK5
  refine HT_region ?_
  refine HL_cons rfl ?_
  refine o_faddr' (ft := 3) (off := 0) rfl Try.underlying55 rfl tI3 (by decide) ?_
  try dsimp only [putL, setL, evL, getL]
  refine HL_cons rfl ?_
  refine o_load' rfl Try.underlying3 rfl (hH.hasv 0 rfl rfl) ?_
  try dsimp only [putL, setL, evL, getL]
  refine HL_cons rfl ?_
  refine o_faddr' (ft := 3) (off := 0) rfl Try.underlying55 rfl tI3 (by decide) ?_
  try dsimp only [putL, setL, evL, getL]
  refine HL_cons rfl ?_
  refine o_load' rfl Try.underlying3 rfl (hH.hasv 1 rfl rfl) ?_
  try dsimp only [putL, setL, evL, getL]
  refine HL_cons rfl ?_
  refine o_bin rfl rfl rfl ?_
  try dsimp only [putL, setL, evL, getL]
  refine HL_nil ?_
  refine hK5 _ _ ?_
  rcases Bool.eq_false_or_eq_true (p0_0 != p1_0) with hb6 | hb6
  · replace H := iteT hb6 H
    refine HT_true (congrArg Value.bool hb6) ?_
    refine HT_seq_k ?_
    intro K7 hK7
    refine HT_region ?_
    refine HL_cons rfl ?_
    refine o_assign ?_
    try dsimp only [putL, setL, evL, getL]
    refine HL_nil ?_
    refine hK7 _ _ ?_
    refine HT_ret ?_
    obtain rfl := Option.some.inj (show some _ = some r from H)
    exact hQr _ _ [.bool false] ⟨rfl, trivial⟩ ⟨rfl, hH.sel [] (by decide)⟩
  · replace H := iteF hb6 H
    refine HT_false (congrArg Value.bool hb6) ?_
    refine HT_skip ?_
    refine hK4 _ _ ?_
    refine HT_seq_k ?_
    intro K8 hK8
    refine HT_seq_k ?_
    intro K9 hK9
    refine HT_region ?_
    refine HL_cons rfl ?_
    refine o_faddr' (ft := 3) (off := 1) rfl Try.underlying55 rfl tI3 (by decide) ?_
    try dsimp only [putL, setL, evL, getL]
    refine HL_cons rfl ?_
    refine o_load' rfl Try.underlying3 rfl (hH.hasv 0 rfl rfl) ?_
    try dsimp only [putL, setL, evL, getL]
    refine HL_cons rfl ?_
    refine o_faddr' (ft := 3) (off := 1) rfl Try.underlying55 rfl tI3 (by decide) ?_
    try dsimp only [putL, setL, evL, getL]
    refine HL_cons rfl ?_
    refine o_load' rfl Try.underlying3 rfl (hH.hasv 1 rfl rfl) ?_
    try dsimp only [putL, setL, evL, getL]
    refine HL_cons rfl ?_
    refine o_bin rfl rfl rfl ?_
    try dsimp only [putL, setL, evL, getL]
    refine HL_nil ?_
    refine hK9 _ _ ?_
    rcases Bool.eq_false_or_eq_true (p0_1 != p1_1) with hb10 | hb10
    · replace H := iteT hb10 H
      refine HT_true (congrArg Value.bool hb10) ?_
      refine HT_seq_k ?_
      intro K11 hK11
      refine HT_region ?_
      refine HL_cons rfl ?_
      refine o_assign ?_
      try dsimp only [putL, setL, evL, getL]
      refine HL_nil ?_
      refine hK11 _ _ ?_
      refine HT_ret ?_
      obtain rfl := Option.some.inj (show some _ = some r from H)
      exact hQr _ _ [.bool false] ⟨rfl, trivial⟩ ⟨rfl, hH.sel [] (by decide)⟩
    · replace H := iteF hb10 H
      refine HT_false (congrArg Value.bool hb10) ?_
      refine HT_skip ?_
      refine hK8 _ _ ?_
      refine HT_seq_k ?_
      intro K12 hK12
      refine HT_seq_k ?_
      intro K13 hK13
      refine HT_region ?_
      refine HL_cons rfl ?_
      refine o_faddr' (ft := 22) (off := 2) rfl Try.underlying55 rfl tI22 (by decide) ?_
      try dsimp only [putL, setL, evL, getL]
      refine HL_cons rfl ?_
      refine o_load' rfl Try.underlying22 rfl (hH.hasv 0 rfl rfl) ?_
      try dsimp only [putL, setL, evL, getL]
      refine HL_cons rfl ?_
      refine o_faddr' (ft := 22) (off := 2) rfl Try.underlying55 rfl tI22 (by decide) ?_
      try dsimp only [putL, setL, evL, getL]
      refine HL_cons rfl ?_
      refine o_load' rfl Try.underlying22 rfl (hH.hasv 1 rfl rfl) ?_
      try dsimp only [putL, setL, evL, getL]
      obtain ⟨u14, hu14, H⟩ := headE H
      refine HL_cons rfl ?_
      refine o_call (args := #[.slice A0_2p p0_2.length c0_2p, .slice A1_2p p1_2.length c1_2p]) Try.func18 rfl rfl rfl (laws_eqIntS.ok sb s3 no A0_2p c0_2p p0_2 A1_2p c1_2p p1_2 HRp0_2 HRp1_2 (Hp.own hH.bs) _ hu14) ?_
      rintro _ s14 ⟨rfl, hD⟩
      replace hH := hH.back0 hD (Up.refl _ _ _)
      clear hD
      dsimp only [addC, setC, rmC, selC, getC] at hH
      try dsimp only [putL, setL, evL, getL]
      refine HL_cons rfl ?_
      refine o_not rfl ?_
      try dsimp only [putL, setL, evL, getL]
      refine HL_nil ?_
      refine hK13 _ _ ?_
      rcases Bool.eq_false_or_eq_true (!u14) with hb15 | hb15
      · replace H := iteT hb15 H
        refine HT_true (congrArg Value.bool hb15) ?_
        refine HT_seq_k ?_
        intro K16 hK16
        refine HT_region ?_
        refine HL_cons rfl ?_
        refine o_assign ?_
        try dsimp only [putL, setL, evL, getL]
        refine HL_nil ?_
        refine hK16 _ _ ?_
        refine HT_ret ?_
        obtain rfl := Option.some.inj (show some _ = some r from H)
        exact hQr _ _ [.bool false] ⟨rfl, trivial⟩ ⟨rfl, hH.sel [] (by decide)⟩
      · replace H := iteF hb15 H
        refine HT_false (congrArg Value.bool hb15) ?_
        refine HT_skip ?_
        refine hK12 _ _ ?_
        refine HT_seq_k ?_
        intro K17 hK17
        refine HT_seq_k ?_
        intro K18 hK18
        refine HT_region ?_
        refine HL_cons rfl ?_
        refine o_faddr' (ft := 3) (off := 3) rfl Try.underlying55 rfl tI3 (by decide) ?_
        try dsimp only [putL, setL, evL, getL]
        refine HL_cons rfl ?_
        refine o_load' rfl Try.underlying3 rfl (hH.hasv 0 rfl rfl) ?_
        try dsimp only [putL, setL, evL, getL]
        refine HL_cons rfl ?_
        refine o_faddr' (ft := 3) (off := 3) rfl Try.underlying55 rfl tI3 (by decide) ?_
        try dsimp only [putL, setL, evL, getL]
        refine HL_cons rfl ?_
        refine o_load' rfl Try.underlying3 rfl (hH.hasv 1 rfl rfl) ?_
        try dsimp only [putL, setL, evL, getL]
        refine HL_cons rfl ?_
        refine o_bin rfl rfl rfl ?_
        try dsimp only [putL, setL, evL, getL]
        refine HL_nil ?_
        refine hK18 _ _ ?_
        rcases Bool.eq_false_or_eq_true (p0_3 != p1_3) with hb19 | hb19
        · replace H := iteT hb19 H
          refine HT_true (congrArg Value.bool hb19) ?_
          refine HT_seq_k ?_
          intro K20 hK20
          refine HT_region ?_
          refine HL_cons rfl ?_
          refine o_assign ?_
          try dsimp only [putL, setL, evL, getL]
          refine HL_nil ?_
          refine hK20 _ _ ?_
          refine HT_ret ?_
          obtain rfl := Option.some.inj (show some _ = some r from H)
          exact hQr _ _ [.bool false] ⟨rfl, trivial⟩ ⟨rfl, hH.sel [] (by decide)⟩
        · replace H := iteF hb19 H
          refine HT_false (congrArg Value.bool hb19) ?_
          refine HT_skip ?_
          refine hK17 _ _ ?_
          refine HT_seq_k ?_
          intro K21 hK21
          refine HT_seq_k ?_
          intro K22 hK22
          refine HT_region ?_
          refine HL_cons rfl ?_
          refine o_faddr' (ft := 3) (off := 4) rfl Try.underlying55 rfl tI3 (by decide) ?_
          try dsimp only [putL, setL, evL, getL]
          refine HL_cons rfl ?_
          refine o_load' rfl Try.underlying3 rfl (hH.hasv 0 rfl rfl) ?_
          try dsimp only [putL, setL, evL, getL]
          refine HL_cons rfl ?_
          refine o_faddr' (ft := 3) (off := 4) rfl Try.underlying55 rfl tI3 (by decide) ?_
          try dsimp only [putL, setL, evL, getL]
          refine HL_cons rfl ?_
          refine o_load' rfl Try.underlying3 rfl (hH.hasv 1 rfl rfl) ?_
          try dsimp only [putL, setL, evL, getL]
          refine HL_cons rfl ?_
          refine o_bin rfl rfl rfl ?_
          try dsimp only [putL, setL, evL, getL]
          refine HL_nil ?_
          refine hK22 _ _ ?_
          rcases Bool.eq_false_or_eq_true (p0_4 != p1_4) with hb23 | hb23
          · replace H := iteT hb23 H
            refine HT_true (congrArg Value.bool hb23) ?_
            refine HT_seq_k ?_
            intro K24 hK24
            refine HT_region ?_
            refine HL_cons rfl ?_
            refine o_assign ?_
            try dsimp only [putL, setL, evL, getL]
            refine HL_nil ?_
            refine hK24 _ _ ?_
            refine HT_ret ?_
            obtain rfl := Option.some.inj (show some _ = some r from H)
            exact hQr _ _ [.bool false] ⟨rfl, trivial⟩ ⟨rfl, hH.sel [] (by decide)⟩
          · replace H := iteF hb23 H
            refine HT_false (congrArg Value.bool hb23) ?_
            refine HT_skip ?_
            refine hK21 _ _ ?_
            refine HT_seq_k ?_
            intro K25 hK25
            refine HT_region ?_
            refine HL_cons rfl ?_
            refine o_assign ?_
            try dsimp only [putL, setL, evL, getL]
            refine HL_nil ?_
            refine hK25 _ _ ?_
            refine HT_ret ?_
            obtain rfl := Option.some.inj (show some _ = some r from H)
            exact hQr _ _ [.bool true] ⟨rfl, trivial⟩ ⟨rfl, hH.sel [] (by decide)⟩
def laws_markIntS.l1 (p0 : List (Int)) : Nat → (List (Int)) → Int → Int → Option (Int × (List (Int)))
  | 0, _, _, _ => none
  | kf + 1, x42, x43, x44 => if (decide (x44 < (p0.length : Int))) = true then ((rd? x42 x44).bind fun u61 => (st? x42 x44 x43).bind fun x62 => laws_markIntS.l1 p0 kf x62 (IntKind.i64.wrap (x43 + 1)) (IntKind.i64.wrap (x44 + 1))) else (some (x43, x42))
def laws_markIntS.f (p0 : List (Int)) (p1 : Int) : Option (Int × (List (Int))) := (laws_markIntS.l1 p0 ((((p0.length : Int)) - (0)).toNat + 2) p0 p1 0).bind fun (o : Int × (List (Int))) => match o with | (x33, x34) => (some (x33, x34))
def laws_markIntS.post (sb s : St) (F0 : Fp) (A0p : Option Addr) (c0p : Nat) (p0 : List (Int)) (r : Int × (List (Int))) : Value → St → Prop := fun v s' => v = .int .i64 r.1 ∧ Hp sb s F0 s' [Ck.ol OI 3 A0p c0p r.2] ∧ r.2.length = p0.length
set_option maxRecDepth 100000 in
set_option maxHeartbeats 4000000 in
theorem laws_markIntS.ok (sb s : St) (F0 : Fp) (A0p : Option Addr) (c0p : Nat) (p0 : List (Int)) (p1 : Int) (hH : Hp sb s F0 s [Ck.ol OI 3 A0p c0p p0]) (r : Int × (List (Int))) (H : laws_markIntS.f p0 p1 = some r) : GCall Try.prog 19 #[.slice A0p p0.length c0p, .int .i64 p1] s (laws_markIntS.post sb s F0 A0p c0p p0 r) := by
  refine GCall_ofk [.tmp 4] [.slice A0p p0.length c0p, .int .i64 p1, undef, undef, undef, undef, undef, undef, undef, undef, undef, undef, undef, undef, undef, undef, undef, undef, undef] Try.func19 rfl rfl rfl ?_
  intro w Q hQr hQn hQp
  replace H := topE H
  unfold laws_markIntS.f at H
  refine HT_seq_k ?_
  intro K1 hK1
  refine HT_region ?_
  refine HL_cons rfl ?_
  refine o_assign ?_
  try dsimp only [putL, setL, evL, getL]
  refine HL_nil ?_
  refine hK1 _ _ ?_
  refine HT_seq_k ?_
  intro K2 hK2
  refine HT_seq_k ?_
  intro K3 hK3
  refine HT_region ?_
  refine HL_cons rfl ?_
  refine o_assign ?_
  try dsimp only [putL, setL, evL, getL]
  refine HL_nil ?_
  refine hK3 _ _ ?_
  refine joinH H fun G4 hG4 H => ?_
  refine HT_toK (fun l' s' => ∃ (x33 : Int) (x34 : List (Int)), G4 (x33, x34) = some r ∧ l' = [.slice A0p p0.length c0p, .int .i64 x33, undef, undef, .int .i64 0, getL l' 5, getL l' 6, getL l' 7, getL l' 8, getL l' 9, getL l' 10, getL l' 11, getL l' 12, getL l' 13, getL l' 14, getL l' 15, getL l' 16, getL l' 17, undef] ∧ Hp sb s F0 s' [Ck.ol OI 3 A0p c0p x34] ∧ x34.length = p0.length) ?_ ?_
  · intro K4 hK4
    refine HT_block ?_
    refine HT_loopK (fun kf l' s' => ∃ (x42 : List (Int)) (x43 : Int) (x44 : Int), (laws_markIntS.l1 p0 kf x42 x43 x44).bind G4 = some r ∧ l' = [.slice A0p p0.length c0p, .int .i64 x43, undef, undef, .int .i64 0, .int .i64 x44, getL l' 6, getL l' 7, getL l' 8, getL l' 9, getL l' 10, getL l' 11, getL l' 12, getL l' 13, getL l' 14, getL l' 15, getL l' 16, getL l' 17, undef] ∧ Hp sb s F0 s' [Ck.ol OI 3 A0p c0p x42] ∧ x42.length = p0.length) ((((p0.length : Int)) - (0)).toNat + 2) ⟨p0, p1, 0, H, rfl, hH, rfl⟩ ?_
    rintro kf l' s55 ⟨x42, x43, x44, H, hl, hH, hl42⟩ K55 hK55
    generalize getL l' 6 = j6, getL l' 7 = j7, getL l' 8 = j8, getL l' 9 = j9, getL l' 10 = j10, getL l' 11 = j11, getL l' 12 = j12, getL l' 13 = j13, getL l' 14 = j14, getL l' 15 = j15, getL l' 16 = j16, getL l' 17 = j17 at hl
    subst hl
    cases kf with
    | zero => simp [laws_markIntS.l1] at H
    | succ kf =>
      rw [laws_markIntS.l1] at H
      refine HT_seq_k ?_
      intro K56 hK56
      refine HT_seq_k ?_
      intro K57 hK57
      refine HT_region ?_
      refine HL_cons rfl ?_
      refine o_move ?_
      try dsimp only [putL, setL, evL, getL]
      refine HL_cons rfl ?_
      refine o_move ?_
      try dsimp only [putL, setL, evL, getL]
      refine HL_cons rfl ?_
      refine o_len rfl Try.underlying22 ?_
      try dsimp only [putL, setL, evL, getL]
      refine HL_cons rfl ?_
      refine o_bin rfl rfl rfl ?_
      try dsimp only [putL, setL, evL, getL]
      refine HL_nil ?_
      refine hK57 _ _ ?_
      rcases Bool.eq_false_or_eq_true (decide (x44 < (p0.length : Int))) with hb58 | hb58
      · replace H := iteT hb58 H
        refine HT_true (congrArg Value.bool hb58) ?_
        refine HT_skip ?_
        refine hK56 _ _ ?_
        refine HT_seq_k ?_
        intro K59 hK59
        refine HT_block ?_
        refine HT_seq_k ?_
        intro K60 hK60
        refine HT_region ?_
        refine HL_cons rfl ?_
        refine o_move ?_
        try dsimp only [putL, setL, evL, getL]
        refine HL_cons rfl ?_
        refine o_move ?_
        try dsimp only [putL, setL, evL, getL]
        refine HL_cons rfl ?_
        refine o_move ?_
        try dsimp only [putL, setL, evL, getL]
        obtain ⟨u61, hu61, H⟩ := headE H
        obtain ⟨b61, o61, cs61, hA61, hr61, hh61, hel61⟩ := hH.elo 0 rfl hu61
        obtain rfl := hr61
        refine HL_cons rfl ?_
        refine hel61 s55 (sliceLen hl42) rfl Try.underlying22 tI3 ?_
        try dsimp only [putL, setL, evL, getL]
        obtain ⟨x62, hx62, H⟩ := headE H
        refine HL_cons rfl ?_
        refine o_setF (vs := [.int .i64 x43]) (u := x43) hH 0 rfl rfl rfl rfl rfl tI3 hA61 hx62 (Ent.own (Ent.flat rfl)) ?_
        intro s62 hH'
        have hl62 := (st?_len hx62).trans hl42
        replace hH : Hp sb s F0 s62 [Ck.ol OI 3 A0p c0p x62] := hH'
        clear hH'
        try dsimp only [putL, setL, evL, getL]
        refine HL_nil ?_
        refine hK60 _ _ ?_
        refine HT_region ?_
        refine HL_cons rfl ?_
        refine o_move ?_
        try dsimp only [putL, setL, evL, getL]
        refine HL_cons rfl ?_
        refine o_bin rfl rfl rfl ?_
        try dsimp only [putL, setL, evL, getL]
        refine HL_cons rfl ?_
        refine o_assign ?_
        try dsimp only [putL, setL, evL, getL]
        refine HL_nil ?_
        refine hK59 _ _ ?_
        refine HT_region ?_
        refine HL_cons rfl ?_
        refine o_move ?_
        try dsimp only [putL, setL, evL, getL]
        refine HL_cons rfl ?_
        refine o_bin rfl rfl rfl ?_
        try dsimp only [putL, setL, evL, getL]
        refine HL_cons rfl ?_
        refine o_assign ?_
        try dsimp only [putL, setL, evL, getL]
        refine HL_nil ?_
        exact hK55 _ _ ⟨kf, Nat.lt_succ_self kf, x62, IntKind.i64.wrap (x43 + 1), IntKind.i64.wrap (x44 + 1), H, rfl, hH, hl62⟩
      · replace H := iteF hb58 H
        refine HT_false (congrArg Value.bool hb58) ?_
        refine HT_exit ?_
        exact hK4 _ _ ⟨x43, x42, H, rfl, hH, hl42⟩
  · rintro l' s63 ⟨x33, x34, H, hl, hH, hl34⟩
    generalize getL l' 5 = j5, getL l' 6 = j6, getL l' 7 = j7, getL l' 8 = j8, getL l' 9 = j9, getL l' 10 = j10, getL l' 11 = j11, getL l' 12 = j12, getL l' 13 = j13, getL l' 14 = j14, getL l' 15 = j15, getL l' 16 = j16, getL l' 17 = j17 at hl
    subst hl
    replace H := hG4 _ H
    try dsimp only at H
    refine hK2 _ _ ?_
    refine HT_seq_k ?_
    intro K64 hK64
    refine HT_region ?_
    refine HL_cons rfl ?_
    refine o_move ?_
    try dsimp only [putL, setL, evL, getL]
    refine HL_cons rfl ?_
    refine o_assign ?_
    try dsimp only [putL, setL, evL, getL]
    refine HL_nil ?_
    refine hK64 _ _ ?_
    refine HT_ret ?_
    obtain rfl := Option.some.inj (show some _ = some r from H)
    exact hQr _ _ [.int .i64 x33] ⟨rfl, trivial⟩ ⟨rfl, hH, hl34⟩
def laws_markScreen.f (p0_0 : Int) (p0_1 : Int) (p0_2 : List (Int)) (p0_3 : Int) (p0_4 : Int) (p1 : Int) : Option (Int × (List (Int))) := (laws_markIntS.f p0_2 p1).bind fun u4 => some (u4.1, u4.2)
def laws_markScreen.post (sb s : St) (F0 : Fp) (A0_2p : Option Addr) (c0_2p : Nat) (p0_2 : List (Int)) (r : Int × (List (Int))) : Value → St → Prop := fun v s' => v = .int .i64 r.1 ∧ Hp sb s F0 s' [Ck.ol OI 3 A0_2p c0_2p r.2] ∧ r.2.length = p0_2.length
set_option maxRecDepth 100000 in
set_option maxHeartbeats 4000000 in
theorem laws_markScreen.ok (sb s : St) (F0 : Fp) (p0_0 : Int) (p0_1 : Int) (A0_2p : Option Addr) (c0_2p : Nat) (p0_2 : List (Int)) (p0_3 : Int) (p0_4 : Int) (p1 : Int) (hH : Hp sb s F0 s [Ck.ol OI 3 A0_2p c0_2p p0_2]) (r : Int × (List (Int))) (H : laws_markScreen.f p0_0 p0_1 p0_2 p0_3 p0_4 p1 = some r) : GCall Try.prog 76 #[.agg #[.int .i64 p0_0, .int .i64 p0_1, .slice A0_2p p0_2.length c0_2p, .int .i64 p0_3, .int .i64 p0_4], .int .i64 p1] s (laws_markScreen.post sb s F0 A0_2p c0_2p p0_2 r) := by
  refine GCall_ofk [.tmp 4] [.agg #[.int .i64 p0_0, .int .i64 p0_1, .slice A0_2p p0_2.length c0_2p, .int .i64 p0_3, .int .i64 p0_4], .int .i64 p1, undef, undef, undef, undef, undef, undef, undef, undef] Try.func76 rfl rfl rfl ?_
  intro w Q hQr hQn hQp
  replace H := topE H
  unfold laws_markScreen.f at H
  refine HT_seq_k ?_
  intro K1 hK1
  refine HT_region ?_
  refine HL_cons rfl ?_
  refine o_boxH hH rfl ?_
  intro b2 s2 hH' hG
  replace hH : Hp sb s F0 s2 [Ck.ol OI 3 A0_2p c0_2p p0_2, Ck.ov b2 [.int .i64 p0_0, .int .i64 p0_1, .slice A0_2p p0_2.length c0_2p, .int .i64 p0_3, .int .i64 p0_4] 55] := hH'
  clear hH' hG
  try dsimp only [putL, setL, evL, getL]
  refine HL_cons rfl ?_
  refine o_assign ?_
  try dsimp only [putL, setL, evL, getL]
  refine HL_nil ?_
  refine hK1 _ _ ?_
  refine HT_seq_k ?_
  intro K3 hK3
  refine HT_region ?_
  refine HL_cons rfl ?_
  refine o_faddr' (ft := 22) (off := 2) rfl Try.underlying55 rfl tI22 (by decide) ?_
  try dsimp only [putL, setL, evL, getL]
  refine HL_cons rfl ?_
  refine o_load' rfl Try.underlying22 rfl (hH.hasv 1 rfl rfl) ?_
  try dsimp only [putL, setL, evL, getL]
  refine HL_cons rfl ?_
  refine o_move ?_
  try dsimp only [putL, setL, evL, getL]
  obtain ⟨u4, hu4, H⟩ := headE H
  obtain ⟨F1, hA, hB⟩ := hH.take [0] (by decide)
  dsimp only [addC, setC, rmC, selC, getC] at hA
  refine HL_cons rfl ?_
  refine o_call (args := #[.slice A0_2p p0_2.length c0_2p, .int .i64 p1]) Try.func19 rfl rfl rfl (laws_markIntS.ok sb s2 F1 A0_2p c0_2p p0_2 p1 hA _ hu4) ?_
  rintro _ s4 ⟨rfl, hD, hl5⟩
  replace hH := hB _ _ _ (Up.refl _ _ _) hD
  clear hD hA hB
  dsimp only [addC, setC, rmC, selC, getC] at hH
  try dsimp only [putL, setL, evL, getL]
  refine HL_cons rfl ?_
  refine o_assign ?_
  try dsimp only [putL, setL, evL, getL]
  refine HL_nil ?_
  refine hK3 _ _ ?_
  refine HT_seq_k ?_
  intro K6 hK6
  refine HT_region ?_
  refine HL_cons rfl ?_
  refine o_move ?_
  try dsimp only [putL, setL, evL, getL]
  refine HL_cons rfl ?_
  refine o_assign ?_
  try dsimp only [putL, setL, evL, getL]
  refine HL_nil ?_
  refine hK6 _ _ ?_
  refine HT_ret ?_
  obtain rfl := Option.some.inj (show some _ = some r from H)
  exact hQr _ _ [.int .i64 u4.1] ⟨rfl, trivial⟩ ⟨rfl, hH.sel [2] (by decide), hl5⟩
def laws_heldIntS.l1 (p0 : List (Int)) : Nat → Int → Int → Option (Lo Int Int)
  | 0, _, _ => none
  | kf + 1, x47, x48 => if (decide (x48 < (p0.length : Int))) = true then ((rd? p0 x48).bind fun u67 => if (u67 != x47) = true then ((some (-1)).bind fun z => some (Lo.ret z)) else (laws_heldIntS.l1 p0 kf (IntKind.i64.wrap (x47 + 1)) (IntKind.i64.wrap (x48 + 1)))) else (some (Lo.go x47))
def laws_heldIntS.f (p0 : List (Int)) (p1 : Int) : Option Int := (laws_heldIntS.l1 p0 ((((p0.length : Int)) - (0)).toNat + 2) p1 0).bind fun (o : Lo Int Int) => match o with | .go x37 => (some x37) | .ret z => some z
def laws_heldIntS.post (sb s : St) (F0 : Fp) (r : Int) : Value → St → Prop := fun v s' => v = .int .i64 r ∧ Hp sb s F0 s' []
set_option maxRecDepth 100000 in
set_option maxHeartbeats 4000000 in
theorem laws_heldIntS.ok (sb s : St) (F0 : Fp) (A0p : Option Addr) (c0p : Nat) (p0 : List (Int)) (p1 : Int) (HRp0 : Rd KI sb A0p c0p p0) (hH : Hp sb s F0 s []) (r : Int) (H : laws_heldIntS.f p0 p1 = some r) : GCall Try.prog 20 #[.slice A0p p0.length c0p, .int .i64 p1] s (laws_heldIntS.post sb s F0 r) := by
  refine GCall_ofk [.tmp 4] [.slice A0p p0.length c0p, .int .i64 p1, undef, undef, undef, undef, undef, undef, undef, undef, undef, undef, undef, undef, undef, undef, undef, undef, undef, undef, undef] Try.func20 rfl rfl rfl ?_
  intro w Q hQr hQn hQp
  replace H := topE H
  unfold laws_heldIntS.f at H
  refine HT_seq_k ?_
  intro K1 hK1
  refine HT_region ?_
  refine HL_cons rfl ?_
  refine o_assign ?_
  try dsimp only [putL, setL, evL, getL]
  refine HL_nil ?_
  refine hK1 _ _ ?_
  refine HT_seq_k ?_
  intro K2 hK2
  refine HT_seq_k ?_
  intro K3 hK3
  refine HT_region ?_
  refine HL_cons rfl ?_
  refine o_assign ?_
  try dsimp only [putL, setL, evL, getL]
  refine HL_nil ?_
  refine hK3 _ _ ?_
  refine joinH H fun G4 hG4 H => ?_
  refine HT_toK (fun l' s' => ∃ (x37 : Int), G4 (.go x37) = some r ∧ l' = [.slice A0p p0.length c0p, .int .i64 x37, undef, undef, getL l' 4, getL l' 5, getL l' 6, getL l' 7, getL l' 8, getL l' 9, getL l' 10, getL l' 11, getL l' 12, getL l' 13, getL l' 14, getL l' 15, getL l' 16, getL l' 17, getL l' 18, getL l' 19, undef] ∧ Hp sb s F0 s' []) ?_ ?_
  · intro K4 hK4
    refine HT_block ?_
    refine HT_loopK (fun kf l' s' => ∃ (x47 : Int) (x48 : Int), (laws_heldIntS.l1 p0 kf x47 x48).bind G4 = some r ∧ l' = [.slice A0p p0.length c0p, .int .i64 x47, undef, undef, getL l' 4, .int .i64 x48, getL l' 6, getL l' 7, getL l' 8, getL l' 9, getL l' 10, getL l' 11, getL l' 12, getL l' 13, getL l' 14, getL l' 15, getL l' 16, getL l' 17, getL l' 18, getL l' 19, undef] ∧ Hp sb s F0 s' []) ((((p0.length : Int)) - (0)).toNat + 2) ⟨p1, 0, H, rfl, hH⟩ ?_
    rintro kf l' s60 ⟨x47, x48, H, hl, hH⟩ K60 hK60
    generalize getL l' 4 = j4, getL l' 6 = j6, getL l' 7 = j7, getL l' 8 = j8, getL l' 9 = j9, getL l' 10 = j10, getL l' 11 = j11, getL l' 12 = j12, getL l' 13 = j13, getL l' 14 = j14, getL l' 15 = j15, getL l' 16 = j16, getL l' 17 = j17, getL l' 18 = j18, getL l' 19 = j19 at hl
    subst hl
    cases kf with
    | zero => simp [laws_heldIntS.l1] at H
    | succ kf =>
      rw [laws_heldIntS.l1] at H
      refine HT_seq_k ?_
      intro K61 hK61
      refine HT_seq_k ?_
      intro K62 hK62
      refine HT_region ?_
      refine HL_cons rfl ?_
      refine o_move ?_
      try dsimp only [putL, setL, evL, getL]
      refine HL_cons rfl ?_
      refine o_move ?_
      try dsimp only [putL, setL, evL, getL]
      refine HL_cons rfl ?_
      refine o_len rfl Try.underlying22 ?_
      try dsimp only [putL, setL, evL, getL]
      refine HL_cons rfl ?_
      refine o_bin rfl rfl rfl ?_
      try dsimp only [putL, setL, evL, getL]
      refine HL_nil ?_
      refine hK62 _ _ ?_
      rcases Bool.eq_false_or_eq_true (decide (x48 < (p0.length : Int))) with hb63 | hb63
      · replace H := iteT hb63 H
        refine HT_true (congrArg Value.bool hb63) ?_
        refine HT_skip ?_
        refine hK61 _ _ ?_
        refine HT_seq_k ?_
        intro K64 hK64
        refine HT_block ?_
        refine HT_seq_k ?_
        intro K65 hK65
        refine HT_seq_k ?_
        intro K66 hK66
        refine HT_region ?_
        refine HL_cons rfl ?_
        refine o_move ?_
        try dsimp only [putL, setL, evL, getL]
        refine HL_cons rfl ?_
        refine o_move ?_
        try dsimp only [putL, setL, evL, getL]
        obtain ⟨u67, hu67, H⟩ := headE H
        obtain ⟨b67, o67, cs67, hr67, hh67, hel67⟩ := Rd.elb HRp0 hu67
        obtain rfl := hr67
        refine HL_cons rfl ?_
        refine hel67 s60 rfl rfl Try.underlying22 tI3 ?_
        try dsimp only [putL, setL, evL, getL]
        refine HL_cons rfl ?_
        refine o_load' rfl Try.underlying3 rfl ((hh67 hH.bs.mono) 0 _ rfl) ?_
        try dsimp only [putL, setL, evL, getL]
        refine HL_cons rfl ?_
        refine o_move ?_
        try dsimp only [putL, setL, evL, getL]
        refine HL_cons rfl ?_
        refine o_bin rfl rfl rfl ?_
        try dsimp only [putL, setL, evL, getL]
        refine HL_nil ?_
        refine hK66 _ _ ?_
        rcases Bool.eq_false_or_eq_true (u67 != x47) with hb68 | hb68
        · replace H := iteT hb68 H
          refine HT_true (congrArg Value.bool hb68) ?_
          refine HT_seq_k ?_
          intro K69 hK69
          refine HT_region ?_
          refine HL_cons rfl ?_
          refine o_assign ?_
          try dsimp only [putL, setL, evL, getL]
          refine HL_nil ?_
          refine hK69 _ _ ?_
          refine HT_ret ?_
          replace H := escH (fun z hz => hG4 _ hz) H
          obtain rfl := Option.some.inj (show some _ = some r from H)
          exact hQr _ _ [.int .i64 (-1)] ⟨rfl, trivial⟩ ⟨rfl, hH⟩
        · replace H := iteF hb68 H
          refine HT_false (congrArg Value.bool hb68) ?_
          refine HT_skip ?_
          refine hK65 _ _ ?_
          refine HT_region ?_
          refine HL_cons rfl ?_
          refine o_move ?_
          try dsimp only [putL, setL, evL, getL]
          refine HL_cons rfl ?_
          refine o_bin rfl rfl rfl ?_
          try dsimp only [putL, setL, evL, getL]
          refine HL_cons rfl ?_
          refine o_assign ?_
          try dsimp only [putL, setL, evL, getL]
          refine HL_nil ?_
          refine hK64 _ _ ?_
          refine HT_region ?_
          refine HL_cons rfl ?_
          refine o_move ?_
          try dsimp only [putL, setL, evL, getL]
          refine HL_cons rfl ?_
          refine o_bin rfl rfl rfl ?_
          try dsimp only [putL, setL, evL, getL]
          refine HL_cons rfl ?_
          refine o_assign ?_
          try dsimp only [putL, setL, evL, getL]
          refine HL_nil ?_
          exact hK60 _ _ ⟨kf, Nat.lt_succ_self kf, IntKind.i64.wrap (x47 + 1), IntKind.i64.wrap (x48 + 1), H, rfl, hH⟩
      · replace H := iteF hb63 H
        refine HT_false (congrArg Value.bool hb63) ?_
        refine HT_exit ?_
        exact hK4 _ _ ⟨x47, H, rfl, hH⟩
  · rintro l' s70 ⟨x37, H, hl, hH⟩
    generalize getL l' 4 = j4, getL l' 5 = j5, getL l' 6 = j6, getL l' 7 = j7, getL l' 8 = j8, getL l' 9 = j9, getL l' 10 = j10, getL l' 11 = j11, getL l' 12 = j12, getL l' 13 = j13, getL l' 14 = j14, getL l' 15 = j15, getL l' 16 = j16, getL l' 17 = j17, getL l' 18 = j18, getL l' 19 = j19 at hl
    subst hl
    replace H := hG4 _ H
    try dsimp only at H
    refine hK2 _ _ ?_
    refine HT_seq_k ?_
    intro K71 hK71
    refine HT_region ?_
    refine HL_cons rfl ?_
    refine o_move ?_
    try dsimp only [putL, setL, evL, getL]
    refine HL_cons rfl ?_
    refine o_assign ?_
    try dsimp only [putL, setL, evL, getL]
    refine HL_nil ?_
    refine hK71 _ _ ?_
    refine HT_ret ?_
    obtain rfl := Option.some.inj (show some _ = some r from H)
    exact hQr _ _ [.int .i64 x37] ⟨rfl, trivial⟩ ⟨rfl, hH⟩
def laws_heldScreen.f (p0_0 : Int) (p0_1 : Int) (p0_2 : List (Int)) (p0_3 : Int) (p0_4 : Int) (p1 : Int) : Option Int := (laws_heldIntS.f p0_2 p1).bind fun u4 => if (decide (u4 < 0)) = true then (some (-1)) else (some u4)
def laws_heldScreen.post (sb s : St) (F0 : Fp) (r : Int) : Value → St → Prop := fun v s' => v = .int .i64 r ∧ Hp sb s F0 s' []
set_option maxRecDepth 100000 in
set_option maxHeartbeats 4000000 in
theorem laws_heldScreen.ok (sb s : St) (F0 : Fp) (p0_0 : Int) (p0_1 : Int) (A0_2p : Option Addr) (c0_2p : Nat) (p0_2 : List (Int)) (p0_3 : Int) (p0_4 : Int) (p1 : Int) (HRp0_2 : Rd KI sb A0_2p c0_2p p0_2) (hH : Hp sb s F0 s []) (r : Int) (H : laws_heldScreen.f p0_0 p0_1 p0_2 p0_3 p0_4 p1 = some r) : GCall Try.prog 77 #[.agg #[.int .i64 p0_0, .int .i64 p0_1, .slice A0_2p p0_2.length c0_2p, .int .i64 p0_3, .int .i64 p0_4], .int .i64 p1] s (laws_heldScreen.post sb s F0 r) := by
  refine GCall_ofk [.tmp 4] [.agg #[.int .i64 p0_0, .int .i64 p0_1, .slice A0_2p p0_2.length c0_2p, .int .i64 p0_3, .int .i64 p0_4], .int .i64 p1, undef, undef, undef, undef, undef, undef, undef, undef, undef, undef] Try.func77 rfl rfl rfl ?_
  intro w Q hQr hQn hQp
  replace H := topE H
  unfold laws_heldScreen.f at H
  refine HT_seq_k ?_
  intro K1 hK1
  refine HT_region ?_
  refine HL_cons rfl ?_
  refine o_boxH hH rfl ?_
  intro b2 s2 hH' hG
  replace hH : Hp sb s F0 s2 [Ck.ov b2 [.int .i64 p0_0, .int .i64 p0_1, .slice A0_2p p0_2.length c0_2p, .int .i64 p0_3, .int .i64 p0_4] 55] := hH'
  clear hH' hG
  try dsimp only [putL, setL, evL, getL]
  refine HL_cons rfl ?_
  refine o_assign ?_
  try dsimp only [putL, setL, evL, getL]
  refine HL_nil ?_
  refine hK1 _ _ ?_
  refine HT_seq_k ?_
  intro K3 hK3
  refine HT_region ?_
  refine HL_cons rfl ?_
  refine o_faddr' (ft := 22) (off := 2) rfl Try.underlying55 rfl tI22 (by decide) ?_
  try dsimp only [putL, setL, evL, getL]
  refine HL_cons rfl ?_
  refine o_load' rfl Try.underlying22 rfl (hH.hasv 0 rfl rfl) ?_
  try dsimp only [putL, setL, evL, getL]
  refine HL_cons rfl ?_
  refine o_move ?_
  try dsimp only [putL, setL, evL, getL]
  obtain ⟨u4, hu4, H⟩ := headE H
  refine HL_cons rfl ?_
  refine o_call (args := #[.slice A0_2p p0_2.length c0_2p, .int .i64 p1]) Try.func20 rfl rfl rfl (laws_heldIntS.ok sb s2 no A0_2p c0_2p p0_2 p1 HRp0_2 (Hp.own hH.bs) _ hu4) ?_
  rintro _ s4 ⟨rfl, hD⟩
  replace hH := hH.back0 hD (Up.refl _ _ _)
  clear hD
  dsimp only [addC, setC, rmC, selC, getC] at hH
  try dsimp only [putL, setL, evL, getL]
  refine HL_cons rfl ?_
  refine o_assign ?_
  try dsimp only [putL, setL, evL, getL]
  refine HL_nil ?_
  refine hK3 _ _ ?_
  refine HT_seq_k ?_
  intro K5 hK5
  refine HT_seq_k ?_
  intro K6 hK6
  refine HT_region ?_
  refine HL_cons rfl ?_
  refine o_move ?_
  try dsimp only [putL, setL, evL, getL]
  refine HL_cons rfl ?_
  refine o_bin rfl rfl rfl ?_
  try dsimp only [putL, setL, evL, getL]
  refine HL_nil ?_
  refine hK6 _ _ ?_
  rcases Bool.eq_false_or_eq_true (decide (u4 < 0)) with hb7 | hb7
  · replace H := iteT hb7 H
    refine HT_true (congrArg Value.bool hb7) ?_
    refine HT_seq_k ?_
    intro K8 hK8
    refine HT_region ?_
    refine HL_cons rfl ?_
    refine o_assign ?_
    try dsimp only [putL, setL, evL, getL]
    refine HL_nil ?_
    refine hK8 _ _ ?_
    refine HT_ret ?_
    obtain rfl := Option.some.inj (show some _ = some r from H)
    exact hQr _ _ [.int .i64 (-1)] ⟨rfl, trivial⟩ ⟨rfl, hH.sel [] (by decide)⟩
  · replace H := iteF hb7 H
    refine HT_false (congrArg Value.bool hb7) ?_
    refine HT_skip ?_
    refine hK5 _ _ ?_
    refine HT_seq_k ?_
    intro K9 hK9
    refine HT_region ?_
    refine HL_cons rfl ?_
    refine o_move ?_
    try dsimp only [putL, setL, evL, getL]
    refine HL_cons rfl ?_
    refine o_assign ?_
    try dsimp only [putL, setL, evL, getL]
    refine HL_nil ?_
    refine hK9 _ _ ?_
    refine HT_ret ?_
    obtain rfl := Option.some.inj (show some _ = some r from H)
    exact hQr _ _ [.int .i64 u4] ⟨rfl, trivial⟩ ⟨rfl, hH.sel [] (by decide)⟩
def laws_FnExactPutRune.f (p0_0 : Int) (p0_1 : Int) (p0_2 : List (Int)) (p0_3 : Int) (p0_4 : Int) (p1 : Int) : Option Bool := (laws_szScreen.f p0_0 p0_1 p0_2 p0_3 p0_4 1048576).bind fun u5 => if (decide (u5 < 0)) = true then (some true) else ((laws_toScreen.f p0_0 p0_1 p0_2 p0_3 p0_4).bind fun u11 => (spec_PutRune.f u11.1 u11.2.1 u11.2.2.1 u11.2.2.2.1 u11.2.2.2.2 p1).bind fun u13 => (laws_toScreen.f p0_0 p0_1 p0_2 p0_3 p0_4).bind fun u18 => (impl_PutRune.f u18.1 u18.2.1 u18.2.2.1 u18.2.2.2.1 u18.2.2.2.2 p1).bind fun u23 => ((laws_eqScreen.f u23.1 u23.2.1 u23.2.2.1 u23.2.2.2.1 u23.2.2.2.2.1 u13.1 u13.2.1 u13.2.2.1 u13.2.2.2.1 u13.2.2.2.2.1).bind fun u42 => if (!u42) = true then (some true) else (some (u23.2.2.2.2.2 != u13.2.2.2.2.2))).bind fun (o : Bool) => match o with | x41 => (if x41 = true then (some false) else ((laws_toScreen.f p0_0 p0_1 p0_2 p0_3 p0_4).bind fun u49 => (laws_eqScreen.f u18.1 u18.2.1 u18.2.2.1 u18.2.2.2.1 u18.2.2.2.2 u49.1 u49.2.1 u49.2.2.1 u49.2.2.2.1 u49.2.2.2.2).bind fun u51 => if (!u51) = true then (some false) else ((laws_markScreen.f u18.1 u18.2.1 u18.2.2.1 u18.2.2.2.1 u18.2.2.2.2 1).bind fun u56 => (if (decide (u56.1 < 0)) = true then (some true) else ((laws_eqScreen.f u23.1 u23.2.1 u23.2.2.1 u23.2.2.2.1 u23.2.2.2.2.1 u13.1 u13.2.1 u13.2.2.1 u13.2.2.2.1 u13.2.2.2.2.1).bind fun u77 => if (!u77) = true then (some true) else (some (u23.2.2.2.2.2 != u13.2.2.2.2.2)))).bind fun (o : Bool) => match o with | x75 => (if x75 = true then (some false) else ((laws_markScreen.f u23.1 u23.2.1 u23.2.2.1 u23.2.2.2.1 u23.2.2.2.2.1 1).bind fun u84 => (laws_heldScreen.f u23.1 u23.2.1 u84.2 u23.2.2.2.1 u23.2.2.2.2.1 1).bind fun u88 => if (decide (u88 < 0)) = true then (some false) else (if (u88 != u84.1) = true then (some false) else ((laws_toScreen.f p0_0 p0_1 p0_2 p0_3 p0_4).bind fun u98 => (impl_PutRune.f u98.1 u98.2.1 u98.2.2.1 u98.2.2.2.1 u98.2.2.2.2 p1).bind fun u100 => ((laws_eqScreen.f u100.1 u100.2.1 u100.2.2.1 u100.2.2.2.1 u100.2.2.2.2.1 u13.1 u13.2.1 u13.2.2.1 u13.2.2.2.1 u13.2.2.2.2.1).bind fun u119 => if (!u119) = true then (some true) else (some (u100.2.2.2.2.2 != u13.2.2.2.2.2))).bind fun (o : Bool) => match o with | x118 => (if x118 = true then (some false) else ((laws_heldScreen.f u23.1 u23.2.1 u84.2 u23.2.2.2.1 u23.2.2.2.2.1 1).bind fun u126 => if (decide (u126 < 0)) = true then (some false) else (if (u126 != u84.1) = true then (some false) else (some true))))))))))))
def laws_FnExactPutRune.post (sb s : St) (F0 : Fp) (r : Bool) : Value → St → Prop := fun v s' => v = .bool r ∧ Hp sb s F0 s' []
set_option maxRecDepth 100000 in
set_option maxHeartbeats 4000000 in
theorem laws_FnExactPutRune.ok (sb s : St) (F0 : Fp) (p0_0 : Int) (p0_1 : Int) (A0_2p : Option Addr) (c0_2p : Nat) (p0_2 : List (Int)) (p0_3 : Int) (p0_4 : Int) (p1 : Int) (HRp0_2 : Rd KI sb A0_2p c0_2p p0_2) (hH : Hp sb s F0 s []) (r : Bool) (H : laws_FnExactPutRune.f p0_0 p0_1 p0_2 p0_3 p0_4 p1 = some r) : GCall Try.prog 13 #[.agg #[.int .i64 p0_0, .int .i64 p0_1, .slice A0_2p p0_2.length c0_2p, .int .i64 p0_3, .int .i64 p0_4], .int .i64 p1] s (laws_FnExactPutRune.post sb s F0 r) := by
  refine GCall_ofk [.tmp 4] [.agg #[.int .i64 p0_0, .int .i64 p0_1, .slice A0_2p p0_2.length c0_2p, .int .i64 p0_3, .int .i64 p0_4], .int .i64 p1, undef, undef, undef, undef, undef, undef, undef, undef, undef, undef, undef, undef, undef, undef, undef, undef, undef, undef, undef, undef, undef, undef, undef, undef, undef, undef, undef, undef, undef, undef, undef, undef, undef, undef, undef, undef, undef, undef, undef, undef, undef, undef, undef, undef, undef, undef, undef, undef, undef, undef, undef, undef, undef, undef, undef, undef, undef, undef, undef, undef, undef, undef, undef, undef, undef, undef, undef, undef, undef, undef, undef, undef, undef, undef, undef, undef, undef, undef, undef, undef, undef, undef, undef, undef, undef, undef, undef, undef, undef, undef, undef, undef, undef, undef, undef, undef, undef, undef, undef] Try.func13 rfl rfl rfl ?_
  intro w Q hQr hQn hQp
  replace H := topE H
  unfold laws_FnExactPutRune.f at H
  refine HT_seq_k ?_
  intro K1 hK1
  refine HT_region ?_
  refine HL_cons rfl ?_
  refine o_boxH hH rfl ?_
  intro b2 s2 hH' hG
  replace hH : Hp sb s F0 s2 [Ck.ov b2 [.int .i64 p0_0, .int .i64 p0_1, .slice A0_2p p0_2.length c0_2p, .int .i64 p0_3, .int .i64 p0_4] 51] := hH'
  clear hH' hG
  try dsimp only [putL, setL, evL, getL]
  refine HL_cons rfl ?_
  refine o_assign ?_
  try dsimp only [putL, setL, evL, getL]
  refine HL_nil ?_
  refine hK1 _ _ ?_
  refine HT_seq_k ?_
  intro K3 hK3
  refine HT_region ?_
  refine HL_cons rfl ?_
  refine o_assign ?_
  try dsimp only [putL, setL, evL, getL]
  refine HL_nil ?_
  refine hK3 _ _ ?_
  refine HT_seq_k ?_
  intro K4 hK4
  refine HT_region ?_
  refine HL_cons rfl ?_
  refine o_loads' [.int .i64 p0_0, .int .i64 p0_1, .slice A0_2p p0_2.length c0_2p, .int .i64 p0_3, .int .i64 p0_4] rfl Try.underlying51 rfl tI51 rfl (hH.partv 0 rfl (0) [.int .i64 p0_0, .int .i64 p0_1, .slice A0_2p p0_2.length c0_2p, .int .i64 p0_3, .int .i64 p0_4] rfl) ?_
  try dsimp only [putL, setL, evL, getL]
  refine HL_cons rfl ?_
  refine o_move ?_
  try dsimp only [putL, setL, evL, getL]
  obtain ⟨u5, hu5, H⟩ := headE H
  refine HL_cons rfl ?_
  refine o_call (args := #[.agg #[.int .i64 p0_0, .int .i64 p0_1, .slice A0_2p p0_2.length c0_2p, .int .i64 p0_3, .int .i64 p0_4], .int .i64 1048576]) Try.func39 rfl rfl rfl (laws_szScreen.ok sb s2 no p0_0 p0_1 A0_2p c0_2p p0_2 p0_3 p0_4 1048576 HRp0_2 (Hp.own hH.bs) _ hu5) ?_
  rintro _ s5 ⟨rfl, hD⟩
  replace hH := hH.back0 hD (Up.refl _ _ _)
  clear hD
  dsimp only [addC, setC, rmC, selC, getC] at hH
  try dsimp only [putL, setL, evL, getL]
  refine HL_cons rfl ?_
  refine o_assign ?_
  try dsimp only [putL, setL, evL, getL]
  refine HL_nil ?_
  refine hK4 _ _ ?_
  refine HT_seq_k ?_
  intro K6 hK6
  refine HT_seq_k ?_
  intro K7 hK7
  refine HT_region ?_
  refine HL_cons rfl ?_
  refine o_move ?_
  try dsimp only [putL, setL, evL, getL]
  refine HL_cons rfl ?_
  refine o_bin rfl rfl rfl ?_
  try dsimp only [putL, setL, evL, getL]
  refine HL_nil ?_
  refine hK7 _ _ ?_
  rcases Bool.eq_false_or_eq_true (decide (u5 < 0)) with hb8 | hb8
  · replace H := iteT hb8 H
    refine HT_true (congrArg Value.bool hb8) ?_
    refine HT_seq_k ?_
    intro K9 hK9
    refine HT_region ?_
    refine HL_cons rfl ?_
    refine o_assign ?_
    try dsimp only [putL, setL, evL, getL]
    refine HL_nil ?_
    refine hK9 _ _ ?_
    refine HT_ret ?_
    obtain rfl := Option.some.inj (show some _ = some r from H)
    exact hQr _ _ [.bool true] ⟨rfl, trivial⟩ ⟨rfl, hH.sel [] (by decide)⟩
  · replace H := iteF hb8 H
    refine HT_false (congrArg Value.bool hb8) ?_
    refine HT_skip ?_
    refine hK6 _ _ ?_
    refine HT_seq_k ?_
    intro K10 hK10
    refine HT_region ?_
    refine HL_cons rfl ?_
    refine o_loads' [.int .i64 p0_0, .int .i64 p0_1, .slice A0_2p p0_2.length c0_2p, .int .i64 p0_3, .int .i64 p0_4] rfl Try.underlying51 rfl tI51 rfl (hH.partv 0 rfl (0) [.int .i64 p0_0, .int .i64 p0_1, .slice A0_2p p0_2.length c0_2p, .int .i64 p0_3, .int .i64 p0_4] rfl) ?_
    try dsimp only [putL, setL, evL, getL]
    obtain ⟨u11, hu11, H⟩ := headE H
    refine HL_cons rfl ?_
    refine o_call (args := #[.agg #[.int .i64 p0_0, .int .i64 p0_1, .slice A0_2p p0_2.length c0_2p, .int .i64 p0_3, .int .i64 p0_4]]) Try.func41 rfl rfl rfl (laws_toScreen.ok sb s5 no p0_0 p0_1 A0_2p c0_2p p0_2 p0_3 p0_4 HRp0_2 (Hp.own hH.bs) _ hu11) ?_
    rintro _ s11 ⟨A12, c12, rfl, hD⟩
    replace hH := hH.back0 hD (Up.refl _ _ _)
    clear hD
    dsimp only [addC, setC, rmC, selC, getC] at hH
    try dsimp only [putL, setL, evL, getL]
    refine HL_cons rfl ?_
    refine o_move ?_
    try dsimp only [putL, setL, evL, getL]
    obtain ⟨u13, hu13, H⟩ := headE H
    obtain ⟨F1, hA, hB⟩ := hH.take [1] (by decide)
    dsimp only [addC, setC, rmC, selC, getC] at hA
    refine HL_cons rfl ?_
    refine o_call (args := #[.agg #[.int .i64 u11.1, .int .i64 u11.2.1, .slice A12 u11.2.2.1.length c12, .int .i64 u11.2.2.2.1, .int .i64 u11.2.2.2.2], .int .i64 p1]) Try.func74 rfl rfl rfl (spec_PutRune.ok sb s11 F1 u11.1 u11.2.1 A12 c12 u11.2.2.1 u11.2.2.2.1 u11.2.2.2.2 p1 hA _ hu13) ?_
    rintro _ s13 ⟨A14, c14, rfl, hD⟩
    replace hH := hB _ _ _ (Up.refl _ _ _) hD
    clear hD hA hB
    dsimp only [addC, setC, rmC, selC, getC] at hH
    try dsimp only [putL, setL, evL, getL]
    refine HL_cons rfl ?_
    refine o_move ?_
    try dsimp only [putL, setL, evL, getL]
    refine HL_cons rfl ?_
    refine o_extract rfl rfl ?_
    try dsimp only [putL, setL, evL, getL]
    refine HL_cons rfl ?_
    refine o_extract rfl rfl ?_
    try dsimp only [putL, setL, evL, getL]
    refine HL_cons rfl ?_
    refine o_allocH hH tI55 ?_
    intro b15 s15 hH' hG
    replace hH : Hp sb s F0 s15 [Ck.ov b2 [.int .i64 p0_0, .int .i64 p0_1, .slice A0_2p p0_2.length c0_2p, .int .i64 p0_3, .int .i64 p0_4] 51, Ck.emp, Ck.ol OI 3 A14 c14 u13.2.2.1, Ck.ov b15 [.int .i64 0, .int .i64 0, .slice none 0 0, .int .i64 0, .int .i64 0] 55] := hH'
    clear hH' hG
    try dsimp only [putL, setL, evL, getL]
    refine HL_cons rfl ?_
    refine o_stvH (vs := [.int .i64 u13.1, .int .i64 u13.2.1, .slice A14 u13.2.2.1.length c14, .int .i64 u13.2.2.2.1, .int .i64 u13.2.2.2.2.1]) (us' := [.int .i64 u13.1, .int .i64 u13.2.1, .slice A14 u13.2.2.1.length c14, .int .i64 u13.2.2.2.1, .int .i64 u13.2.2.2.2.1]) hH 3 rfl rfl rfl rfl rfl tI55 rfl (List.cons_ne_nil _ _) rfl rfl rfl ?_
    intro s16 hH'
    replace hH : Hp sb s F0 s16 [Ck.ov b2 [.int .i64 p0_0, .int .i64 p0_1, .slice A0_2p p0_2.length c0_2p, .int .i64 p0_3, .int .i64 p0_4] 51, Ck.emp, Ck.ol OI 3 A14 c14 u13.2.2.1, Ck.ov b15 [.int .i64 u13.1, .int .i64 u13.2.1, .slice A14 u13.2.2.1.length c14, .int .i64 u13.2.2.2.1, .int .i64 u13.2.2.2.2.1] 55] := hH'
    clear hH'
    try dsimp only [putL, setL, evL, getL]
    refine HL_cons rfl ?_
    refine o_assign ?_
    try dsimp only [putL, setL, evL, getL]
    refine HL_nil ?_
    refine hK10 _ _ ?_
    refine HT_seq_k ?_
    intro K17 hK17
    refine HT_region ?_
    refine HL_cons rfl ?_
    refine o_loads' [.int .i64 p0_0, .int .i64 p0_1, .slice A0_2p p0_2.length c0_2p, .int .i64 p0_3, .int .i64 p0_4] rfl Try.underlying51 rfl tI51 rfl (hH.partv 0 rfl (0) [.int .i64 p0_0, .int .i64 p0_1, .slice A0_2p p0_2.length c0_2p, .int .i64 p0_3, .int .i64 p0_4] rfl) ?_
    try dsimp only [putL, setL, evL, getL]
    obtain ⟨u18, hu18, H⟩ := headE H
    refine HL_cons rfl ?_
    refine o_call (args := #[.agg #[.int .i64 p0_0, .int .i64 p0_1, .slice A0_2p p0_2.length c0_2p, .int .i64 p0_3, .int .i64 p0_4]]) Try.func41 rfl rfl rfl (laws_toScreen.ok sb s16 no p0_0 p0_1 A0_2p c0_2p p0_2 p0_3 p0_4 HRp0_2 (Hp.own hH.bs) _ hu18) ?_
    rintro _ s18 ⟨A19, c19, rfl, hD⟩
    replace hH := hH.back0 hD (Up.refl _ _ _)
    clear hD
    dsimp only [addC, setC, rmC, selC, getC] at hH
    try dsimp only [putL, setL, evL, getL]
    refine HL_cons rfl ?_
    refine o_allocH hH tI55 ?_
    intro b20 s20 hH' hG
    replace hH : Hp sb s F0 s20 [Ck.ov b2 [.int .i64 p0_0, .int .i64 p0_1, .slice A0_2p p0_2.length c0_2p, .int .i64 p0_3, .int .i64 p0_4] 51, Ck.emp, Ck.ol OI 3 A14 c14 u13.2.2.1, Ck.ov b15 [.int .i64 u13.1, .int .i64 u13.2.1, .slice A14 u13.2.2.1.length c14, .int .i64 u13.2.2.2.1, .int .i64 u13.2.2.2.2.1] 55, Ck.ol OI 3 A19 c19 u18.2.2.1, Ck.ov b20 [.int .i64 0, .int .i64 0, .slice none 0 0, .int .i64 0, .int .i64 0] 55] := hH'
    clear hH' hG
    try dsimp only [putL, setL, evL, getL]
    refine HL_cons rfl ?_
    refine o_stvH (vs := [.int .i64 u18.1, .int .i64 u18.2.1, .slice A19 u18.2.2.1.length c19, .int .i64 u18.2.2.2.1, .int .i64 u18.2.2.2.2]) (us' := [.int .i64 u18.1, .int .i64 u18.2.1, .slice A19 u18.2.2.1.length c19, .int .i64 u18.2.2.2.1, .int .i64 u18.2.2.2.2]) hH 5 rfl rfl rfl rfl rfl tI55 rfl (List.cons_ne_nil _ _) rfl rfl rfl ?_
    intro s21 hH'
    replace hH : Hp sb s F0 s21 [Ck.ov b2 [.int .i64 p0_0, .int .i64 p0_1, .slice A0_2p p0_2.length c0_2p, .int .i64 p0_3, .int .i64 p0_4] 51, Ck.emp, Ck.ol OI 3 A14 c14 u13.2.2.1, Ck.ov b15 [.int .i64 u13.1, .int .i64 u13.2.1, .slice A14 u13.2.2.1.length c14, .int .i64 u13.2.2.2.1, .int .i64 u13.2.2.2.2.1] 55, Ck.ol OI 3 A19 c19 u18.2.2.1, Ck.ov b20 [.int .i64 u18.1, .int .i64 u18.2.1, .slice A19 u18.2.2.1.length c19, .int .i64 u18.2.2.2.1, .int .i64 u18.2.2.2.2] 55] := hH'
    clear hH'
    try dsimp only [putL, setL, evL, getL]
    refine HL_nil ?_
    refine hK17 _ _ ?_
    refine HT_seq_k ?_
    intro K22 hK22
    refine HT_region ?_
    refine HL_cons rfl ?_
    refine o_loads' [.int .i64 u18.1, .int .i64 u18.2.1, .slice A19 u18.2.2.1.length c19, .int .i64 u18.2.2.2.1, .int .i64 u18.2.2.2.2] rfl Try.underlying55 rfl tI55 rfl (hH.partv 5 rfl (0) [.int .i64 u18.1, .int .i64 u18.2.1, .slice A19 u18.2.2.1.length c19, .int .i64 u18.2.2.2.1, .int .i64 u18.2.2.2.2] rfl) ?_
    try dsimp only [putL, setL, evL, getL]
    refine HL_cons rfl ?_
    refine o_move ?_
    try dsimp only [putL, setL, evL, getL]
    obtain ⟨u23, hu23, H⟩ := headE H
    refine HL_cons rfl ?_
    refine o_call (args := #[.agg #[.int .i64 u18.1, .int .i64 u18.2.1, .slice A19 u18.2.2.1.length c19, .int .i64 u18.2.2.2.1, .int .i64 u18.2.2.2.2], .int .i64 p1]) Try.func75 rfl rfl rfl (impl_PutRune.ok s21 s21 no u18.1 u18.2.1 A19 c19 u18.2.2.1 u18.2.2.2.1 u18.2.2.2.2 p1 (hH.rd 4 rfl) (Hp.own (Bs.refl s21)) _ hu23) ?_
    rintro _ s23 ⟨A24, c24, rfl, hD⟩
    replace hH := hH.back0T hD
    clear hD
    dsimp only [addC, setC, rmC, selC, getC] at hH
    try dsimp only [putL, setL, evL, getL]
    refine HL_cons rfl ?_
    refine o_move ?_
    try dsimp only [putL, setL, evL, getL]
    refine HL_cons rfl ?_
    refine o_extract rfl rfl ?_
    try dsimp only [putL, setL, evL, getL]
    refine HL_cons rfl ?_
    refine o_extract rfl rfl ?_
    try dsimp only [putL, setL, evL, getL]
    refine HL_cons rfl ?_
    refine o_allocH hH tI55 ?_
    intro b25 s25 hH' hG
    replace hH : Hp sb s F0 s25 [Ck.ov b2 [.int .i64 p0_0, .int .i64 p0_1, .slice A0_2p p0_2.length c0_2p, .int .i64 p0_3, .int .i64 p0_4] 51, Ck.emp, Ck.ol OI 3 A14 c14 u13.2.2.1, Ck.ov b15 [.int .i64 u13.1, .int .i64 u13.2.1, .slice A14 u13.2.2.1.length c14, .int .i64 u13.2.2.2.1, .int .i64 u13.2.2.2.2.1] 55, Ck.ol OI 3 A19 c19 u18.2.2.1, Ck.ov b20 [.int .i64 u18.1, .int .i64 u18.2.1, .slice A19 u18.2.2.1.length c19, .int .i64 u18.2.2.2.1, .int .i64 u18.2.2.2.2] 55, Ck.ol OI 3 A24 c24 u23.2.2.1, Ck.ov b25 [.int .i64 0, .int .i64 0, .slice none 0 0, .int .i64 0, .int .i64 0] 55] := hH'
    clear hH' hG
    try dsimp only [putL, setL, evL, getL]
    refine HL_cons rfl ?_
    refine o_stvH (vs := [.int .i64 u23.1, .int .i64 u23.2.1, .slice A24 u23.2.2.1.length c24, .int .i64 u23.2.2.2.1, .int .i64 u23.2.2.2.2.1]) (us' := [.int .i64 u23.1, .int .i64 u23.2.1, .slice A24 u23.2.2.1.length c24, .int .i64 u23.2.2.2.1, .int .i64 u23.2.2.2.2.1]) hH 7 rfl rfl rfl rfl rfl tI55 rfl (List.cons_ne_nil _ _) rfl rfl rfl ?_
    intro s26 hH'
    replace hH : Hp sb s F0 s26 [Ck.ov b2 [.int .i64 p0_0, .int .i64 p0_1, .slice A0_2p p0_2.length c0_2p, .int .i64 p0_3, .int .i64 p0_4] 51, Ck.emp, Ck.ol OI 3 A14 c14 u13.2.2.1, Ck.ov b15 [.int .i64 u13.1, .int .i64 u13.2.1, .slice A14 u13.2.2.1.length c14, .int .i64 u13.2.2.2.1, .int .i64 u13.2.2.2.2.1] 55, Ck.ol OI 3 A19 c19 u18.2.2.1, Ck.ov b20 [.int .i64 u18.1, .int .i64 u18.2.1, .slice A19 u18.2.2.1.length c19, .int .i64 u18.2.2.2.1, .int .i64 u18.2.2.2.2] 55, Ck.ol OI 3 A24 c24 u23.2.2.1, Ck.ov b25 [.int .i64 u23.1, .int .i64 u23.2.1, .slice A24 u23.2.2.1.length c24, .int .i64 u23.2.2.2.1, .int .i64 u23.2.2.2.2.1] 55] := hH'
    clear hH'
    try dsimp only [putL, setL, evL, getL]
    refine HL_cons rfl ?_
    refine o_assign ?_
    try dsimp only [putL, setL, evL, getL]
    refine HL_nil ?_
    refine hK22 _ _ ?_
    refine HT_seq_k ?_
    intro K37 hK37
    refine joinH H fun G38 hG38 H => ?_
    refine HT_joinK (fun l' s' => ∃ (x41 : Bool), G38 x41 = some r ∧ l' = [.agg #[.int .i64 p0_0, .int .i64 p0_1, .slice A0_2p p0_2.length c0_2p, .int .i64 p0_3, .int .i64 p0_4], .int .i64 p1, .pointer (some ⟨b2, 0, none⟩), undef, .bool false, .int .i64 u5, .pointer (some ⟨b15, 0, none⟩), .bool u13.2.2.2.2.2, .pointer (some ⟨b20, 0, none⟩), .pointer (some ⟨b25, 0, none⟩), .bool u23.2.2.2.2.2, undef, undef, undef, undef, undef, .agg #[.int .i64 p0_0, .int .i64 p0_1, .slice A0_2p p0_2.length c0_2p, .int .i64 p0_3, .int .i64 p0_4], .int .i64 1048576, .int .i64 u5, .int .i64 u5, .bool (decide (u5 < 0)), .tuple #[.agg #[.int .i64 u13.1, .int .i64 u13.2.1, .slice A14 u13.2.2.1.length c14, .int .i64 u13.2.2.2.1, .int .i64 u13.2.2.2.2.1], .bool u13.2.2.2.2.2], .agg #[.int .i64 p0_0, .int .i64 p0_1, .slice A0_2p p0_2.length c0_2p, .int .i64 p0_3, .int .i64 p0_4], .agg #[.int .i64 u11.1, .int .i64 u11.2.1, .slice A12 u11.2.2.1.length c12, .int .i64 u11.2.2.2.1, .int .i64 u11.2.2.2.2], .int .i64 p1, .tuple #[.agg #[.int .i64 u13.1, .int .i64 u13.2.1, .slice A14 u13.2.2.1.length c14, .int .i64 u13.2.2.2.1, .int .i64 u13.2.2.2.2.1], .bool u13.2.2.2.2.2], .agg #[.int .i64 u13.1, .int .i64 u13.2.1, .slice A14 u13.2.2.1.length c14, .int .i64 u13.2.2.2.1, .int .i64 u13.2.2.2.2.1], .bool u13.2.2.2.2.2, .agg #[.int .i64 p0_0, .int .i64 p0_1, .slice A0_2p p0_2.length c0_2p, .int .i64 p0_3, .int .i64 p0_4], .agg #[.int .i64 u18.1, .int .i64 u18.2.1, .slice A19 u18.2.2.1.length c19, .int .i64 u18.2.2.2.1, .int .i64 u18.2.2.2.2], .tuple #[.agg #[.int .i64 u23.1, .int .i64 u23.2.1, .slice A24 u23.2.2.1.length c24, .int .i64 u23.2.2.2.1, .int .i64 u23.2.2.2.2.1], .bool u23.2.2.2.2.2], .agg #[.int .i64 u18.1, .int .i64 u18.2.1, .slice A19 u18.2.2.1.length c19, .int .i64 u18.2.2.2.1, .int .i64 u18.2.2.2.2], .int .i64 p1, .tuple #[.agg #[.int .i64 u23.1, .int .i64 u23.2.1, .slice A24 u23.2.2.1.length c24, .int .i64 u23.2.2.2.1, .int .i64 u23.2.2.2.2.1], .bool u23.2.2.2.2.2], .agg #[.int .i64 u23.1, .int .i64 u23.2.1, .slice A24 u23.2.2.1.length c24, .int .i64 u23.2.2.2.1, .int .i64 u23.2.2.2.2.1], .bool u23.2.2.2.2.2, getL l' 36, getL l' 37, getL l' 38, getL l' 39, getL l' 40, getL l' 41, getL l' 42, getL l' 43, .bool x41, undef, undef, undef, undef, undef, undef, undef, undef, undef, undef, undef, undef, undef, undef, undef, undef, undef, undef, undef, undef, undef, undef, undef, undef, undef, undef, undef, undef, undef, undef, undef, undef, undef, undef, undef, undef, undef, undef, undef, undef, undef, undef, undef, undef, undef, undef, undef, undef, undef, undef, undef, undef, undef, undef, undef, undef] ∧ Hp sb s F0 s' [Ck.ol OI 3 A14 c14 u13.2.2.1, Ck.ol OI 3 A19 c19 u18.2.2.1, Ck.ol OI 3 A24 c24 u23.2.2.1, Ck.ov b2 [.int .i64 p0_0, .int .i64 p0_1, .slice A0_2p p0_2.length c0_2p, .int .i64 p0_3, .int .i64 p0_4] 51, Ck.ov b15 [.int .i64 u13.1, .int .i64 u13.2.1, .slice A14 u13.2.2.1.length c14, .int .i64 u13.2.2.2.1, .int .i64 u13.2.2.2.2.1] 55, Ck.ov b20 [.int .i64 u18.1, .int .i64 u18.2.1, .slice A19 u18.2.2.1.length c19, .int .i64 u18.2.2.2.1, .int .i64 u18.2.2.2.2] 55, Ck.ov b25 [.int .i64 u23.1, .int .i64 u23.2.1, .slice A24 u23.2.2.1.length c24, .int .i64 u23.2.2.2.1, .int .i64 u23.2.2.2.2.1] 55]) ?_ ?_
    · intro K38 hK38
      refine HT_region ?_
      refine HL_cons rfl ?_
      refine o_loads' [.int .i64 u23.1, .int .i64 u23.2.1, .slice A24 u23.2.2.1.length c24, .int .i64 u23.2.2.2.1, .int .i64 u23.2.2.2.2.1] rfl Try.underlying55 rfl tI55 rfl (hH.partv 7 rfl (0) [.int .i64 u23.1, .int .i64 u23.2.1, .slice A24 u23.2.2.1.length c24, .int .i64 u23.2.2.2.1, .int .i64 u23.2.2.2.2.1] rfl) ?_
      try dsimp only [putL, setL, evL, getL]
      refine HL_cons rfl ?_
      refine o_loads' [.int .i64 u13.1, .int .i64 u13.2.1, .slice A14 u13.2.2.1.length c14, .int .i64 u13.2.2.2.1, .int .i64 u13.2.2.2.2.1] rfl Try.underlying55 rfl tI55 rfl (hH.partv 3 rfl (0) [.int .i64 u13.1, .int .i64 u13.2.1, .slice A14 u13.2.2.1.length c14, .int .i64 u13.2.2.2.1, .int .i64 u13.2.2.2.2.1] rfl) ?_
      try dsimp only [putL, setL, evL, getL]
      obtain ⟨u42, hu42, H⟩ := headE H
      refine HL_cons rfl ?_
      refine o_call (args := #[.agg #[.int .i64 u23.1, .int .i64 u23.2.1, .slice A24 u23.2.2.1.length c24, .int .i64 u23.2.2.2.1, .int .i64 u23.2.2.2.2.1], .agg #[.int .i64 u13.1, .int .i64 u13.2.1, .slice A14 u13.2.2.1.length c14, .int .i64 u13.2.2.2.1, .int .i64 u13.2.2.2.2.1]]) Try.func43 rfl rfl rfl (laws_eqScreen.ok s26 s26 no u23.1 u23.2.1 A24 c24 u23.2.2.1 u23.2.2.2.1 u23.2.2.2.2.1 u13.1 u13.2.1 A14 c14 u13.2.2.1 u13.2.2.2.1 u13.2.2.2.2.1 (hH.rd 6 rfl) (hH.rd 2 rfl) (Hp.own (Bs.refl s26)) _ hu42) ?_
      rintro _ s42 ⟨rfl, hD⟩
      replace hH := hH.back0T hD
      clear hD
      dsimp only [addC, setC, rmC, selC, getC] at hH
      try dsimp only [putL, setL, evL, getL]
      refine HL_cons rfl ?_
      refine o_not rfl ?_
      try dsimp only [putL, setL, evL, getL]
      refine HL_cons rfl ?_
      refine o_move ?_
      try dsimp only [putL, setL, evL, getL]
      rcases Bool.eq_false_or_eq_true (!u42) with hb43 | hb43
      · replace H := iteT hb43 H
        refine HL_skip ?_ ?_
        · exact wantF (j := 4) (b := false) (t := 40) (c := !u42) rfl rfl rfl rfl hb43
        try dsimp only [putL, setL, evL, getL]
        refine HL_skip ?_ ?_
        · exact wantF (j := 4) (b := false) (t := 40) (c := !u42) rfl rfl rfl rfl hb43
        try dsimp only [putL, setL, evL, getL]
        refine HL_skip ?_ ?_
        · exact wantF (j := 4) (b := false) (t := 40) (c := !u42) rfl rfl rfl rfl hb43
        try dsimp only [putL, setL, evL, getL]
        refine HL_cons rfl ?_
        refine o_pickT rfl hb43 ?_
        try dsimp only [putL, setL, evL, getL]
        refine HL_nil ?_
        exact hK38 _ _ ⟨true, H, rfl, hH.sel [2, 4, 6, 0, 3, 5, 7] (by decide)⟩
      · replace H := iteF hb43 H
        refine HL_want ?_ ?_
        · exact wantT (j := 4) (b := false) (t := 40) (c := !u42) rfl rfl rfl rfl hb43
        refine o_move ?_
        try dsimp only [putL, setL, evL, getL]
        refine HL_want ?_ ?_
        · exact wantT (j := 4) (b := false) (t := 40) (c := !u42) rfl rfl rfl rfl hb43
        refine o_move ?_
        try dsimp only [putL, setL, evL, getL]
        refine HL_want ?_ ?_
        · exact wantT (j := 4) (b := false) (t := 40) (c := !u42) rfl rfl rfl rfl hb43
        refine o_neb rfl rfl Try.underlying4 ?_
        try dsimp only [putL, setL, evL, getL]
        refine HL_cons rfl ?_
        refine o_pickF rfl hb43 ?_
        try dsimp only [putL, setL, evL, getL]
        refine HL_nil ?_
        exact hK38 _ _ ⟨u23.2.2.2.2.2 != u13.2.2.2.2.2, H, rfl, hH.sel [2, 4, 6, 0, 3, 5, 7] (by decide)⟩
    · rintro l' s44 ⟨x41, H, hl, hH⟩
      generalize getL l' 36 = j36, getL l' 37 = j37, getL l' 38 = j38, getL l' 39 = j39, getL l' 40 = j40, getL l' 41 = j41, getL l' 42 = j42, getL l' 43 = j43 at hl
      subst hl
      replace H := hG38 _ H
      try dsimp only at H
      rcases Bool.eq_false_or_eq_true x41 with hb45 | hb45
      · replace H := iteT hb45 H
        refine HT_true (congrArg Value.bool hb45) ?_
        refine HT_seq_k ?_
        intro K46 hK46
        refine HT_region ?_
        refine HL_cons rfl ?_
        refine o_assign ?_
        try dsimp only [putL, setL, evL, getL]
        refine HL_nil ?_
        refine hK46 _ _ ?_
        refine HT_ret ?_
        obtain rfl := Option.some.inj (show some _ = some r from H)
        exact hQr _ _ [.bool false] ⟨rfl, trivial⟩ ⟨rfl, hH.sel [] (by decide)⟩
      · replace H := iteF hb45 H
        refine HT_false (congrArg Value.bool hb45) ?_
        refine HT_skip ?_
        refine hK37 _ _ ?_
        refine HT_seq_k ?_
        intro K47 hK47
        refine HT_seq_k ?_
        intro K48 hK48
        refine HK_draw (fun s' => Gro s44 s') 6 hMix ?_
        have hR := Gro.refl s44
        have hH0 := hH
        refine HK_read 0 (v := .agg #[.int .i64 u18.1, .int .i64 u18.2.1, .slice A19 u18.2.2.1.length c19, .int .i64 u18.2.2.2.1, .int .i64 u18.2.2.2.2]) rfl (by kernel_rfl) (fun c l s h => hQp c l s h) rfl (fun s' hR' K hK => ?_) rfl rfl hR ?_
        · refine o_loads' [.int .i64 u18.1, .int .i64 u18.2.1, .slice A19 u18.2.2.1.length c19, .int .i64 u18.2.2.2.1, .int .i64 u18.2.2.2.2] rfl Try.underlying55 rfl tI55 rfl (fun j v hj => has_gro hR' ((hH0.partv 5 rfl (0) [.int .i64 u18.1, .int .i64 u18.2.1, .slice A19 u18.2.2.1.length c19, .int .i64 u18.2.2.2.1, .int .i64 u18.2.2.2.2] rfl) j v hj)) ?_
          exact hK
        try dsimp only [putL, setL, evL, getL]
        refine HK_read 1 (v := .agg #[.int .i64 p0_0, .int .i64 p0_1, .slice A0_2p p0_2.length c0_2p, .int .i64 p0_3, .int .i64 p0_4]) rfl (by kernel_rfl) (fun c l s h => hQp c l s h) rfl (fun s' hR' K hK => ?_) rfl rfl hR ?_
        · refine o_loads' [.int .i64 p0_0, .int .i64 p0_1, .slice A0_2p p0_2.length c0_2p, .int .i64 p0_3, .int .i64 p0_4] rfl Try.underlying51 rfl tI51 rfl (fun j v hj => has_gro hR' ((hH0.partv 3 rfl (0) [.int .i64 p0_0, .int .i64 p0_1, .slice A0_2p p0_2.length c0_2p, .int .i64 p0_3, .int .i64 p0_4] rfl) j v hj)) ?_
          exact hK
        try dsimp only [putL, setL, evL, getL]
        obtain ⟨u49, hu49, H⟩ := headE H
        refine HK_one 2 (by kernel_rfl) rfl (fun _ => hR) rfl ?_
        refine o_call (args := #[.agg #[.int .i64 p0_0, .int .i64 p0_1, .slice A0_2p p0_2.length c0_2p, .int .i64 p0_3, .int .i64 p0_4]]) Try.func41 rfl rfl rfl (laws_toScreen.ok sb s44 no p0_0 p0_1 A0_2p c0_2p p0_2 p0_3 p0_4 HRp0_2 (Hp.own hH.bs) _ hu49) ?_
        rintro _ s49 ⟨A50, c50, rfl, hD⟩
        replace hR := hR.trans hD.gro
        replace hH := hH.back0 hD (Up.refl _ _ _)
        clear hD
        dsimp only [addC, setC, rmC, selC, getC] at hH
        try dsimp only [putL, setL, evL, getL]
        obtain ⟨u51, hu51, H⟩ := headE H
        refine HK_one 3 (by kernel_rfl) rfl (fun _ => hR) rfl ?_
        refine o_call (args := #[.agg #[.int .i64 u18.1, .int .i64 u18.2.1, .slice A19 u18.2.2.1.length c19, .int .i64 u18.2.2.2.1, .int .i64 u18.2.2.2.2], .agg #[.int .i64 u49.1, .int .i64 u49.2.1, .slice A50 u49.2.2.1.length c50, .int .i64 u49.2.2.2.1, .int .i64 u49.2.2.2.2]]) Try.func43 rfl rfl rfl (laws_eqScreen.ok s49 s49 no u18.1 u18.2.1 A19 c19 u18.2.2.1 u18.2.2.2.1 u18.2.2.2.2 u49.1 u49.2.1 A50 c50 u49.2.2.1 u49.2.2.2.1 u49.2.2.2.2 (hH.rd 1 rfl) (hH.rd 7 rfl) (Hp.own (Bs.refl s49)) _ hu51) ?_
        rintro _ s51 ⟨rfl, hD⟩
        replace hR := hR.trans hD.gro
        replace hH := hH.back0T hD
        clear hD
        dsimp only [addC, setC, rmC, selC, getC] at hH
        try dsimp only [putL, setL, evL, getL]
        refine HK_readP 4 (v := .bool (!u51)) rfl (by kernel_rfl) (fun c l s h => hQp c l s h) rfl (fun s' K hK => ?_) rfl rfl (fun _ => hR) ?_
        · refine o_not rfl ?_
          exact hK
        try dsimp only [putL, setL, evL, getL]
        refine HK_done (fun _ => hR) (by kernel_rfl) ?_
        refine hK48 _ _ ?_
        rcases Bool.eq_false_or_eq_true (!u51) with hb52 | hb52
        · replace H := iteT hb52 H
          refine HT_true (congrArg Value.bool hb52) ?_
          refine HT_seq_k ?_
          intro K53 hK53
          refine HT_region ?_
          refine HL_cons rfl ?_
          refine o_assign ?_
          try dsimp only [putL, setL, evL, getL]
          refine HL_nil ?_
          refine hK53 _ _ ?_
          refine HT_ret ?_
          obtain rfl := Option.some.inj (show some _ = some r from H)
          exact hQr _ _ [.bool false] ⟨rfl, trivial⟩ ⟨rfl, hH.sel [] (by decide)⟩
        · replace H := iteF hb52 H
          refine HT_false (congrArg Value.bool hb52) ?_
          refine HT_skip ?_
          refine hK47 _ _ ?_
          refine HT_seq_k ?_
          intro K54 hK54
          refine HT_region ?_
          refine HL_cons rfl ?_
          refine o_assign ?_
          try dsimp only [putL, setL, evL, getL]
          refine HL_nil ?_
          refine hK54 _ _ ?_
          refine HT_seq_k ?_
          intro K55 hK55
          refine HT_region ?_
          refine HL_cons rfl ?_
          refine o_loads' [.int .i64 u18.1, .int .i64 u18.2.1, .slice A19 u18.2.2.1.length c19, .int .i64 u18.2.2.2.1, .int .i64 u18.2.2.2.2] rfl Try.underlying55 rfl tI55 rfl (hH.partv 5 rfl (0) [.int .i64 u18.1, .int .i64 u18.2.1, .slice A19 u18.2.2.1.length c19, .int .i64 u18.2.2.2.1, .int .i64 u18.2.2.2.2] rfl) ?_
          try dsimp only [putL, setL, evL, getL]
          refine HL_cons rfl ?_
          refine o_move ?_
          try dsimp only [putL, setL, evL, getL]
          obtain ⟨u56, hu56, H⟩ := headE H
          obtain ⟨F1, hA, hB⟩ := hH.take [1] (by decide)
          dsimp only [addC, setC, rmC, selC, getC] at hA
          refine HL_cons rfl ?_
          refine o_call (args := #[.agg #[.int .i64 u18.1, .int .i64 u18.2.1, .slice A19 u18.2.2.1.length c19, .int .i64 u18.2.2.2.1, .int .i64 u18.2.2.2.2], .int .i64 1]) Try.func76 rfl rfl rfl (laws_markScreen.ok sb s51 F1 u18.1 u18.2.1 A19 c19 u18.2.2.1 u18.2.2.2.1 u18.2.2.2.2 1 hA _ hu56) ?_
          rintro _ s56 ⟨rfl, hD, hl57⟩
          replace hH := hB _ _ _ (Up.refl _ _ _) hD
          clear hD hA hB
          dsimp only [addC, setC, rmC, selC, getC] at hH
          try dsimp only [putL, setL, evL, getL]
          refine HL_cons rfl ?_
          refine o_assign ?_
          try dsimp only [putL, setL, evL, getL]
          refine HL_nil ?_
          refine hK55 _ _ ?_
          refine HT_seq_k ?_
          intro K70 hK70
          refine joinH H fun G71 hG71 H => ?_
          refine HT_joinK (fun l' s' => ∃ (x75 : Bool), G71 x75 = some r ∧ l' = [.agg #[.int .i64 p0_0, .int .i64 p0_1, .slice A0_2p p0_2.length c0_2p, .int .i64 p0_3, .int .i64 p0_4], .int .i64 p1, .pointer (some ⟨b2, 0, none⟩), undef, .bool false, .int .i64 u5, .pointer (some ⟨b15, 0, none⟩), .bool u13.2.2.2.2.2, .pointer (some ⟨b20, 0, none⟩), .pointer (some ⟨b25, 0, none⟩), .bool u23.2.2.2.2.2, .int .i64 u56.1, undef, undef, undef, undef, .agg #[.int .i64 p0_0, .int .i64 p0_1, .slice A0_2p p0_2.length c0_2p, .int .i64 p0_3, .int .i64 p0_4], .int .i64 1048576, .int .i64 u5, .int .i64 u5, .bool (decide (u5 < 0)), .tuple #[.agg #[.int .i64 u13.1, .int .i64 u13.2.1, .slice A14 u13.2.2.1.length c14, .int .i64 u13.2.2.2.1, .int .i64 u13.2.2.2.2.1], .bool u13.2.2.2.2.2], .agg #[.int .i64 p0_0, .int .i64 p0_1, .slice A0_2p p0_2.length c0_2p, .int .i64 p0_3, .int .i64 p0_4], .agg #[.int .i64 u11.1, .int .i64 u11.2.1, .slice A12 u11.2.2.1.length c12, .int .i64 u11.2.2.2.1, .int .i64 u11.2.2.2.2], .int .i64 p1, .tuple #[.agg #[.int .i64 u13.1, .int .i64 u13.2.1, .slice A14 u13.2.2.1.length c14, .int .i64 u13.2.2.2.1, .int .i64 u13.2.2.2.2.1], .bool u13.2.2.2.2.2], .agg #[.int .i64 u13.1, .int .i64 u13.2.1, .slice A14 u13.2.2.1.length c14, .int .i64 u13.2.2.2.1, .int .i64 u13.2.2.2.2.1], .bool u13.2.2.2.2.2, .agg #[.int .i64 p0_0, .int .i64 p0_1, .slice A0_2p p0_2.length c0_2p, .int .i64 p0_3, .int .i64 p0_4], .agg #[.int .i64 u18.1, .int .i64 u18.2.1, .slice A19 u18.2.2.1.length c19, .int .i64 u18.2.2.2.1, .int .i64 u18.2.2.2.2], .tuple #[.agg #[.int .i64 u23.1, .int .i64 u23.2.1, .slice A24 u23.2.2.1.length c24, .int .i64 u23.2.2.2.1, .int .i64 u23.2.2.2.2.1], .bool u23.2.2.2.2.2], .agg #[.int .i64 u18.1, .int .i64 u18.2.1, .slice A19 u18.2.2.1.length c19, .int .i64 u18.2.2.2.1, .int .i64 u18.2.2.2.2], .int .i64 p1, .tuple #[.agg #[.int .i64 u23.1, .int .i64 u23.2.1, .slice A24 u23.2.2.1.length c24, .int .i64 u23.2.2.2.1, .int .i64 u23.2.2.2.2.1], .bool u23.2.2.2.2.2], .agg #[.int .i64 u23.1, .int .i64 u23.2.1, .slice A24 u23.2.2.1.length c24, .int .i64 u23.2.2.2.1, .int .i64 u23.2.2.2.2.1], .bool u23.2.2.2.2.2, j36, j37, j38, j39, j40, j41, j42, j43, .bool x41, .agg #[.int .i64 u18.1, .int .i64 u18.2.1, .slice A19 u18.2.2.1.length c19, .int .i64 u18.2.2.2.1, .int .i64 u18.2.2.2.2], .agg #[.int .i64 p0_0, .int .i64 p0_1, .slice A0_2p p0_2.length c0_2p, .int .i64 p0_3, .int .i64 p0_4], .agg #[.int .i64 u49.1, .int .i64 u49.2.1, .slice A50 u49.2.2.1.length c50, .int .i64 u49.2.2.2.1, .int .i64 u49.2.2.2.2], .bool u51, .bool (!u51), .agg #[.int .i64 u18.1, .int .i64 u18.2.1, .slice A19 u18.2.2.1.length c19, .int .i64 u18.2.2.2.1, .int .i64 u18.2.2.2.2], .int .i64 1, .int .i64 u56.1, getL l' 53, getL l' 54, getL l' 55, getL l' 56, getL l' 57, getL l' 58, getL l' 59, getL l' 60, getL l' 61, getL l' 62, getL l' 63, getL l' 64, .bool x75, undef, undef, undef, undef, undef, undef, undef, undef, undef, undef, undef, undef, undef, undef, undef, undef, undef, undef, undef, undef, undef, undef, undef, undef, undef, undef, undef, undef, undef, undef, undef, undef, undef, undef, undef] ∧ Hp sb s F0 s' [Ck.ol OI 3 A14 c14 u13.2.2.1, Ck.ol OI 3 A24 c24 u23.2.2.1, Ck.ov b2 [.int .i64 p0_0, .int .i64 p0_1, .slice A0_2p p0_2.length c0_2p, .int .i64 p0_3, .int .i64 p0_4] 51, Ck.ov b15 [.int .i64 u13.1, .int .i64 u13.2.1, .slice A14 u13.2.2.1.length c14, .int .i64 u13.2.2.2.1, .int .i64 u13.2.2.2.2.1] 55, Ck.ov b25 [.int .i64 u23.1, .int .i64 u23.2.1, .slice A24 u23.2.2.1.length c24, .int .i64 u23.2.2.2.1, .int .i64 u23.2.2.2.2.1] 55]) ?_ ?_
          · intro K71 hK71
            refine HT_region ?_
            refine HL_cons rfl ?_
            refine o_move ?_
            try dsimp only [putL, setL, evL, getL]
            refine HL_cons rfl ?_
            refine o_bin rfl rfl rfl ?_
            try dsimp only [putL, setL, evL, getL]
            refine HL_cons rfl ?_
            refine o_move ?_
            try dsimp only [putL, setL, evL, getL]
            rcases Bool.eq_false_or_eq_true (decide (u56.1 < 0)) with hb76 | hb76
            · replace H := iteT hb76 H
              refine HL_skip ?_ ?_
              · exact wantF (j := 2) (b := false) (t := 55) (c := decide (u56.1 < 0)) rfl rfl rfl rfl hb76
              try dsimp only [putL, setL, evL, getL]
              refine HL_skip ?_ ?_
              · exact wantF (j := 2) (b := false) (t := 55) (c := decide (u56.1 < 0)) rfl rfl rfl rfl hb76
              try dsimp only [putL, setL, evL, getL]
              refine HL_skip ?_ ?_
              · exact wantF (j := 2) (b := false) (t := 55) (c := decide (u56.1 < 0)) rfl rfl rfl rfl hb76
              try dsimp only [putL, setL, evL, getL]
              refine HL_skip ?_ ?_
              · exact wantF (j := 2) (b := false) (t := 55) (c := decide (u56.1 < 0)) rfl rfl rfl rfl hb76
              try dsimp only [putL, setL, evL, getL]
              refine HL_cons rfl ?_
              refine o_pickT rfl hb76 ?_
              try dsimp only [putL, setL, evL, getL]
              refine HL_cons rfl ?_
              refine o_move ?_
              try dsimp only [putL, setL, evL, getL]
              refine HL_skip ?_ ?_
              · exact wantF (j := 8) (b := false) (t := 61) (c := true) rfl rfl rfl rfl rfl
              try dsimp only [putL, setL, evL, getL]
              refine HL_skip ?_ ?_
              · exact wantF (j := 8) (b := false) (t := 61) (c := true) rfl rfl rfl rfl rfl
              try dsimp only [putL, setL, evL, getL]
              refine HL_skip ?_ ?_
              · exact wantF (j := 8) (b := false) (t := 61) (c := true) rfl rfl rfl rfl rfl
              try dsimp only [putL, setL, evL, getL]
              refine HL_cons rfl ?_
              refine o_pickT rfl rfl ?_
              try dsimp only [putL, setL, evL, getL]
              refine HL_nil ?_
              exact hK71 _ _ ⟨true, H, rfl, (by first | exact hH.sel [0, 2, 3, 4, 6] (by decide) | (rw [hl57]; exact hH.sel [0, 2, 3, 4, 6] (by decide)))⟩
            · replace H := iteF hb76 H
              refine HL_want ?_ ?_
              · exact wantT (j := 2) (b := false) (t := 55) (c := decide (u56.1 < 0)) rfl rfl rfl rfl hb76
              refine o_loads' [.int .i64 u23.1, .int .i64 u23.2.1, .slice A24 u23.2.2.1.length c24, .int .i64 u23.2.2.2.1, .int .i64 u23.2.2.2.2.1] rfl Try.underlying55 rfl tI55 rfl (hH.partv 6 rfl (0) [.int .i64 u23.1, .int .i64 u23.2.1, .slice A24 u23.2.2.1.length c24, .int .i64 u23.2.2.2.1, .int .i64 u23.2.2.2.2.1] rfl) ?_
              try dsimp only [putL, setL, evL, getL]
              refine HL_want ?_ ?_
              · exact wantT (j := 2) (b := false) (t := 55) (c := decide (u56.1 < 0)) rfl rfl rfl rfl hb76
              refine o_loads' [.int .i64 u13.1, .int .i64 u13.2.1, .slice A14 u13.2.2.1.length c14, .int .i64 u13.2.2.2.1, .int .i64 u13.2.2.2.2.1] rfl Try.underlying55 rfl tI55 rfl (hH.partv 4 rfl (0) [.int .i64 u13.1, .int .i64 u13.2.1, .slice A14 u13.2.2.1.length c14, .int .i64 u13.2.2.2.1, .int .i64 u13.2.2.2.2.1] rfl) ?_
              try dsimp only [putL, setL, evL, getL]
              obtain ⟨u77, hu77, H⟩ := headE H
              refine HL_want ?_ ?_
              · exact wantT (j := 2) (b := false) (t := 55) (c := decide (u56.1 < 0)) rfl rfl rfl rfl hb76
              refine o_call (args := #[.agg #[.int .i64 u23.1, .int .i64 u23.2.1, .slice A24 u23.2.2.1.length c24, .int .i64 u23.2.2.2.1, .int .i64 u23.2.2.2.2.1], .agg #[.int .i64 u13.1, .int .i64 u13.2.1, .slice A14 u13.2.2.1.length c14, .int .i64 u13.2.2.2.1, .int .i64 u13.2.2.2.2.1]]) Try.func43 rfl rfl rfl (laws_eqScreen.ok s56 s56 no u23.1 u23.2.1 A24 c24 u23.2.2.1 u23.2.2.2.1 u23.2.2.2.2.1 u13.1 u13.2.1 A14 c14 u13.2.2.1 u13.2.2.2.1 u13.2.2.2.2.1 (hH.rd 2 rfl) (hH.rd 0 rfl) (Hp.own (Bs.refl s56)) _ hu77) ?_
              rintro _ s77 ⟨rfl, hD⟩
              replace hH := hH.back0T hD
              clear hD
              dsimp only [addC, setC, rmC, selC, getC] at hH
              try dsimp only [putL, setL, evL, getL]
              refine HL_want ?_ ?_
              · exact wantT (j := 2) (b := false) (t := 55) (c := decide (u56.1 < 0)) rfl rfl rfl rfl hb76
              refine o_not rfl ?_
              try dsimp only [putL, setL, evL, getL]
              refine HL_cons rfl ?_
              refine o_pickF rfl hb76 ?_
              try dsimp only [putL, setL, evL, getL]
              refine HL_cons rfl ?_
              refine o_move ?_
              try dsimp only [putL, setL, evL, getL]
              rcases Bool.eq_false_or_eq_true (!u77) with hb78 | hb78
              · replace H := iteT hb78 H
                refine HL_skip ?_ ?_
                · exact wantF (j := 8) (b := false) (t := 61) (c := !u77) rfl rfl rfl rfl hb78
                try dsimp only [putL, setL, evL, getL]
                refine HL_skip ?_ ?_
                · exact wantF (j := 8) (b := false) (t := 61) (c := !u77) rfl rfl rfl rfl hb78
                try dsimp only [putL, setL, evL, getL]
                refine HL_skip ?_ ?_
                · exact wantF (j := 8) (b := false) (t := 61) (c := !u77) rfl rfl rfl rfl hb78
                try dsimp only [putL, setL, evL, getL]
                refine HL_cons rfl ?_
                refine o_pickT rfl hb78 ?_
                try dsimp only [putL, setL, evL, getL]
                refine HL_nil ?_
                exact hK71 _ _ ⟨true, H, rfl, (by first | exact hH.sel [0, 2, 3, 4, 6] (by decide) | (rw [hl57]; exact hH.sel [0, 2, 3, 4, 6] (by decide)))⟩
              · replace H := iteF hb78 H
                refine HL_want ?_ ?_
                · exact wantT (j := 8) (b := false) (t := 61) (c := !u77) rfl rfl rfl rfl hb78
                refine o_move ?_
                try dsimp only [putL, setL, evL, getL]
                refine HL_want ?_ ?_
                · exact wantT (j := 8) (b := false) (t := 61) (c := !u77) rfl rfl rfl rfl hb78
                refine o_move ?_
                try dsimp only [putL, setL, evL, getL]
                refine HL_want ?_ ?_
                · exact wantT (j := 8) (b := false) (t := 61) (c := !u77) rfl rfl rfl rfl hb78
                refine o_neb rfl rfl Try.underlying4 ?_
                try dsimp only [putL, setL, evL, getL]
                refine HL_cons rfl ?_
                refine o_pickF rfl hb78 ?_
                try dsimp only [putL, setL, evL, getL]
                refine HL_nil ?_
                exact hK71 _ _ ⟨u23.2.2.2.2.2 != u13.2.2.2.2.2, H, rfl, (by first | exact hH.sel [0, 2, 3, 4, 6] (by decide) | (rw [hl57]; exact hH.sel [0, 2, 3, 4, 6] (by decide)))⟩
          · rintro l' s79 ⟨x75, H, hl, hH⟩
            generalize getL l' 53 = j53, getL l' 54 = j54, getL l' 55 = j55, getL l' 56 = j56, getL l' 57 = j57, getL l' 58 = j58, getL l' 59 = j59, getL l' 60 = j60, getL l' 61 = j61, getL l' 62 = j62, getL l' 63 = j63, getL l' 64 = j64 at hl
            subst hl
            replace H := hG71 _ H
            try dsimp only at H
            rcases Bool.eq_false_or_eq_true x75 with hb80 | hb80
            · replace H := iteT hb80 H
              refine HT_true (congrArg Value.bool hb80) ?_
              refine HT_seq_k ?_
              intro K81 hK81
              refine HT_region ?_
              refine HL_cons rfl ?_
              refine o_assign ?_
              try dsimp only [putL, setL, evL, getL]
              refine HL_nil ?_
              refine hK81 _ _ ?_
              refine HT_ret ?_
              obtain rfl := Option.some.inj (show some _ = some r from H)
              exact hQr _ _ [.bool false] ⟨rfl, trivial⟩ ⟨rfl, hH.sel [] (by decide)⟩
            · replace H := iteF hb80 H
              refine HT_false (congrArg Value.bool hb80) ?_
              refine HT_skip ?_
              refine hK70 _ _ ?_
              refine HT_seq_k ?_
              intro K82 hK82
              refine HT_region ?_
              refine HL_cons rfl ?_
              refine o_assign ?_
              try dsimp only [putL, setL, evL, getL]
              refine HL_nil ?_
              refine hK82 _ _ ?_
              refine HT_seq_k ?_
              intro K83 hK83
              refine HT_region ?_
              refine HL_cons rfl ?_
              refine o_loads' [.int .i64 u23.1, .int .i64 u23.2.1, .slice A24 u23.2.2.1.length c24, .int .i64 u23.2.2.2.1, .int .i64 u23.2.2.2.2.1] rfl Try.underlying55 rfl tI55 rfl (hH.partv 4 rfl (0) [.int .i64 u23.1, .int .i64 u23.2.1, .slice A24 u23.2.2.1.length c24, .int .i64 u23.2.2.2.1, .int .i64 u23.2.2.2.2.1] rfl) ?_
              try dsimp only [putL, setL, evL, getL]
              refine HL_cons rfl ?_
              refine o_move ?_
              try dsimp only [putL, setL, evL, getL]
              obtain ⟨u84, hu84, H⟩ := headE H
              obtain ⟨F1, hA, hB⟩ := hH.take [1] (by decide)
              dsimp only [addC, setC, rmC, selC, getC] at hA
              refine HL_cons rfl ?_
              refine o_call (args := #[.agg #[.int .i64 u23.1, .int .i64 u23.2.1, .slice A24 u23.2.2.1.length c24, .int .i64 u23.2.2.2.1, .int .i64 u23.2.2.2.2.1], .int .i64 1]) Try.func76 rfl rfl rfl (laws_markScreen.ok sb s79 F1 u23.1 u23.2.1 A24 c24 u23.2.2.1 u23.2.2.2.1 u23.2.2.2.2.1 1 hA _ hu84) ?_
              rintro _ s84 ⟨rfl, hD, hl85⟩
              replace hH := hB _ _ _ (Up.refl _ _ _) hD
              clear hD hA hB
              dsimp only [addC, setC, rmC, selC, getC] at hH
              try dsimp only [putL, setL, evL, getL]
              refine HL_cons rfl ?_
              refine o_assign ?_
              try dsimp only [putL, setL, evL, getL]
              refine HL_nil ?_
              refine hK83 _ _ ?_
              refine HT_seq_k ?_
              intro K86 hK86
              refine HT_region ?_
              refine HL_cons rfl ?_
              refine o_assign ?_
              try dsimp only [putL, setL, evL, getL]
              refine HL_nil ?_
              refine hK86 _ _ ?_
              refine HT_seq_k ?_
              intro K87 hK87
              refine HT_region ?_
              refine HL_cons rfl ?_
              refine o_loads' [.int .i64 u23.1, .int .i64 u23.2.1, .slice A24 u23.2.2.1.length c24, .int .i64 u23.2.2.2.1, .int .i64 u23.2.2.2.2.1] rfl Try.underlying55 rfl tI55 rfl (hH.partv 4 rfl (0) [.int .i64 u23.1, .int .i64 u23.2.1, .slice A24 u23.2.2.1.length c24, .int .i64 u23.2.2.2.1, .int .i64 u23.2.2.2.2.1] rfl) ?_
              try dsimp only [putL, setL, evL, getL]
              refine HL_cons rfl ?_
              refine o_move ?_
              try dsimp only [putL, setL, evL, getL]
              obtain ⟨u88, hu88, H⟩ := headE H
              refine HL_cons rfl ?_
              refine o_call (args := #[.agg #[.int .i64 u23.1, .int .i64 u23.2.1, .slice A24 u84.2.length c24, .int .i64 u23.2.2.2.1, .int .i64 u23.2.2.2.2.1], .int .i64 1]) Try.func77 rfl rfl (by show ([.agg #[.int .i64 u23.1, .int .i64 u23.2.1, .slice A24 u23.2.2.1.length c24, .int .i64 u23.2.2.2.1, .int .i64 u23.2.2.2.2.1], .int .i64 1] : List Value) = [.agg #[.int .i64 u23.1, .int .i64 u23.2.1, .slice A24 u84.2.length c24, .int .i64 u23.2.2.2.1, .int .i64 u23.2.2.2.2.1], .int .i64 1]; rw [hl85]; first | done | rfl) (laws_heldScreen.ok s84 s84 no u23.1 u23.2.1 A24 c24 u84.2 u23.2.2.2.1 u23.2.2.2.2.1 1 (hH.rd 5 rfl) (Hp.own (Bs.refl s84)) _ hu88) ?_
              rintro _ s88 ⟨rfl, hD⟩
              replace hH := hH.back0T hD
              clear hD
              dsimp only [addC, setC, rmC, selC, getC] at hH
              try dsimp only [putL, setL, evL, getL]
              refine HL_cons rfl ?_
              refine o_assign ?_
              try dsimp only [putL, setL, evL, getL]
              refine HL_nil ?_
              refine hK87 _ _ ?_
              refine HT_seq_k ?_
              intro K89 hK89
              refine HT_seq_k ?_
              intro K90 hK90
              refine HT_region ?_
              refine HL_cons rfl ?_
              refine o_move ?_
              try dsimp only [putL, setL, evL, getL]
              refine HL_cons rfl ?_
              refine o_bin rfl rfl rfl ?_
              try dsimp only [putL, setL, evL, getL]
              refine HL_nil ?_
              refine hK90 _ _ ?_
              rcases Bool.eq_false_or_eq_true (decide (u88 < 0)) with hb91 | hb91
              · replace H := iteT hb91 H
                refine HT_true (congrArg Value.bool hb91) ?_
                refine HT_seq_k ?_
                intro K92 hK92
                refine HT_region ?_
                refine HL_cons rfl ?_
                refine o_assign ?_
                try dsimp only [putL, setL, evL, getL]
                refine HL_nil ?_
                refine hK92 _ _ ?_
                refine HT_ret ?_
                obtain rfl := Option.some.inj (show some _ = some r from H)
                exact hQr _ _ [.bool false] ⟨rfl, trivial⟩ ⟨rfl, hH.sel [] (by decide)⟩
              · replace H := iteF hb91 H
                refine HT_false (congrArg Value.bool hb91) ?_
                refine HT_skip ?_
                refine hK89 _ _ ?_
                refine HT_seq_k ?_
                intro K93 hK93
                refine HT_seq_k ?_
                intro K94 hK94
                refine HT_region ?_
                refine HL_cons rfl ?_
                refine o_move ?_
                try dsimp only [putL, setL, evL, getL]
                refine HL_cons rfl ?_
                refine o_move ?_
                try dsimp only [putL, setL, evL, getL]
                refine HL_cons rfl ?_
                refine o_bin rfl rfl rfl ?_
                try dsimp only [putL, setL, evL, getL]
                refine HL_nil ?_
                refine hK94 _ _ ?_
                rcases Bool.eq_false_or_eq_true (u88 != u84.1) with hb95 | hb95
                · replace H := iteT hb95 H
                  refine HT_true (congrArg Value.bool hb95) ?_
                  refine HT_seq_k ?_
                  intro K96 hK96
                  refine HT_region ?_
                  refine HL_cons rfl ?_
                  refine o_assign ?_
                  try dsimp only [putL, setL, evL, getL]
                  refine HL_nil ?_
                  refine hK96 _ _ ?_
                  refine HT_ret ?_
                  obtain rfl := Option.some.inj (show some _ = some r from H)
                  exact hQr _ _ [.bool false] ⟨rfl, trivial⟩ ⟨rfl, hH.sel [] (by decide)⟩
                · replace H := iteF hb95 H
                  refine HT_false (congrArg Value.bool hb95) ?_
                  refine HT_skip ?_
                  refine hK93 _ _ ?_
                  refine HT_seq_k ?_
                  intro K97 hK97
                  refine HT_region ?_
                  refine HL_cons rfl ?_
                  refine o_loads' [.int .i64 p0_0, .int .i64 p0_1, .slice A0_2p p0_2.length c0_2p, .int .i64 p0_3, .int .i64 p0_4] rfl Try.underlying51 rfl tI51 rfl (hH.partv 2 rfl (0) [.int .i64 p0_0, .int .i64 p0_1, .slice A0_2p p0_2.length c0_2p, .int .i64 p0_3, .int .i64 p0_4] rfl) ?_
                  try dsimp only [putL, setL, evL, getL]
                  obtain ⟨u98, hu98, H⟩ := headE H
                  refine HL_cons rfl ?_
                  refine o_call (args := #[.agg #[.int .i64 p0_0, .int .i64 p0_1, .slice A0_2p p0_2.length c0_2p, .int .i64 p0_3, .int .i64 p0_4]]) Try.func41 rfl rfl rfl (laws_toScreen.ok sb s88 no p0_0 p0_1 A0_2p c0_2p p0_2 p0_3 p0_4 HRp0_2 (Hp.own hH.bs) _ hu98) ?_
                  rintro _ s98 ⟨A99, c99, rfl, hD⟩
                  replace hH := hH.back0 hD (Up.refl _ _ _)
                  clear hD
                  dsimp only [addC, setC, rmC, selC, getC] at hH
                  try dsimp only [putL, setL, evL, getL]
                  refine HL_cons rfl ?_
                  refine o_move ?_
                  try dsimp only [putL, setL, evL, getL]
                  obtain ⟨u100, hu100, H⟩ := headE H
                  refine HL_cons rfl ?_
                  refine o_call (args := #[.agg #[.int .i64 u98.1, .int .i64 u98.2.1, .slice A99 u98.2.2.1.length c99, .int .i64 u98.2.2.2.1, .int .i64 u98.2.2.2.2], .int .i64 p1]) Try.func75 rfl rfl rfl (impl_PutRune.ok s98 s98 no u98.1 u98.2.1 A99 c99 u98.2.2.1 u98.2.2.2.1 u98.2.2.2.2 p1 (hH.rd 6 rfl) (Hp.own (Bs.refl s98)) _ hu100) ?_
                  rintro _ s100 ⟨A101, c101, rfl, hD⟩
                  replace hH := hH.back0T hD
                  clear hD
                  dsimp only [addC, setC, rmC, selC, getC] at hH
                  try dsimp only [putL, setL, evL, getL]
                  refine HL_cons rfl ?_
                  refine o_move ?_
                  try dsimp only [putL, setL, evL, getL]
                  refine HL_cons rfl ?_
                  refine o_extract rfl rfl ?_
                  try dsimp only [putL, setL, evL, getL]
                  refine HL_cons rfl ?_
                  refine o_extract rfl rfl ?_
                  try dsimp only [putL, setL, evL, getL]
                  refine HL_cons rfl ?_
                  refine o_allocH hH tI55 ?_
                  intro b102 s102 hH' hG
                  replace hH : Hp sb s F0 s102 [Ck.ol OI 3 A14 c14 u13.2.2.1, Ck.emp, Ck.ov b2 [.int .i64 p0_0, .int .i64 p0_1, .slice A0_2p p0_2.length c0_2p, .int .i64 p0_3, .int .i64 p0_4] 51, Ck.ov b15 [.int .i64 u13.1, .int .i64 u13.2.1, .slice A14 u13.2.2.1.length c14, .int .i64 u13.2.2.2.1, .int .i64 u13.2.2.2.2.1] 55, Ck.ov b25 [.int .i64 u23.1, .int .i64 u23.2.1, .slice A24 u23.2.2.1.length c24, .int .i64 u23.2.2.2.1, .int .i64 u23.2.2.2.2.1] 55, Ck.ol OI 3 A24 c24 u84.2, Ck.ol OI 3 A99 c99 u98.2.2.1, Ck.ol OI 3 A101 c101 u100.2.2.1, Ck.ov b102 [.int .i64 0, .int .i64 0, .slice none 0 0, .int .i64 0, .int .i64 0] 55] := hH'
                  clear hH' hG
                  try dsimp only [putL, setL, evL, getL]
                  refine HL_cons rfl ?_
                  refine o_stvH (vs := [.int .i64 u100.1, .int .i64 u100.2.1, .slice A101 u100.2.2.1.length c101, .int .i64 u100.2.2.2.1, .int .i64 u100.2.2.2.2.1]) (us' := [.int .i64 u100.1, .int .i64 u100.2.1, .slice A101 u100.2.2.1.length c101, .int .i64 u100.2.2.2.1, .int .i64 u100.2.2.2.2.1]) hH 8 rfl rfl rfl rfl rfl tI55 rfl (List.cons_ne_nil _ _) rfl rfl rfl ?_
                  intro s103 hH'
                  replace hH : Hp sb s F0 s103 [Ck.ol OI 3 A14 c14 u13.2.2.1, Ck.emp, Ck.ov b2 [.int .i64 p0_0, .int .i64 p0_1, .slice A0_2p p0_2.length c0_2p, .int .i64 p0_3, .int .i64 p0_4] 51, Ck.ov b15 [.int .i64 u13.1, .int .i64 u13.2.1, .slice A14 u13.2.2.1.length c14, .int .i64 u13.2.2.2.1, .int .i64 u13.2.2.2.2.1] 55, Ck.ov b25 [.int .i64 u23.1, .int .i64 u23.2.1, .slice A24 u23.2.2.1.length c24, .int .i64 u23.2.2.2.1, .int .i64 u23.2.2.2.2.1] 55, Ck.ol OI 3 A24 c24 u84.2, Ck.ol OI 3 A99 c99 u98.2.2.1, Ck.ol OI 3 A101 c101 u100.2.2.1, Ck.ov b102 [.int .i64 u100.1, .int .i64 u100.2.1, .slice A101 u100.2.2.1.length c101, .int .i64 u100.2.2.2.1, .int .i64 u100.2.2.2.2.1] 55] := hH'
                  clear hH'
                  try dsimp only [putL, setL, evL, getL]
                  refine HL_cons rfl ?_
                  refine o_assign ?_
                  try dsimp only [putL, setL, evL, getL]
                  refine HL_nil ?_
                  refine hK97 _ _ ?_
                  refine HT_seq_k ?_
                  intro K114 hK114
                  refine joinH H fun G115 hG115 H => ?_
                  refine HT_joinK (fun l' s' => ∃ (x118 : Bool), G115 x118 = some r ∧ l' = [.agg #[.int .i64 p0_0, .int .i64 p0_1, .slice A0_2p p0_2.length c0_2p, .int .i64 p0_3, .int .i64 p0_4], .int .i64 p1, .pointer (some ⟨b2, 0, none⟩), undef, .bool false, .int .i64 u5, .pointer (some ⟨b15, 0, none⟩), .bool u13.2.2.2.2.2, .pointer (some ⟨b20, 0, none⟩), .pointer (some ⟨b25, 0, none⟩), .bool u23.2.2.2.2.2, .int .i64 u56.1, .int .i64 u84.1, .int .i64 u88, .pointer (some ⟨b102, 0, none⟩), .bool u100.2.2.2.2.2, .agg #[.int .i64 p0_0, .int .i64 p0_1, .slice A0_2p p0_2.length c0_2p, .int .i64 p0_3, .int .i64 p0_4], .int .i64 1048576, .int .i64 u5, .int .i64 u5, .bool (decide (u5 < 0)), .tuple #[.agg #[.int .i64 u13.1, .int .i64 u13.2.1, .slice A14 u13.2.2.1.length c14, .int .i64 u13.2.2.2.1, .int .i64 u13.2.2.2.2.1], .bool u13.2.2.2.2.2], .agg #[.int .i64 p0_0, .int .i64 p0_1, .slice A0_2p p0_2.length c0_2p, .int .i64 p0_3, .int .i64 p0_4], .agg #[.int .i64 u11.1, .int .i64 u11.2.1, .slice A12 u11.2.2.1.length c12, .int .i64 u11.2.2.2.1, .int .i64 u11.2.2.2.2], .int .i64 p1, .tuple #[.agg #[.int .i64 u13.1, .int .i64 u13.2.1, .slice A14 u13.2.2.1.length c14, .int .i64 u13.2.2.2.1, .int .i64 u13.2.2.2.2.1], .bool u13.2.2.2.2.2], .agg #[.int .i64 u13.1, .int .i64 u13.2.1, .slice A14 u13.2.2.1.length c14, .int .i64 u13.2.2.2.1, .int .i64 u13.2.2.2.2.1], .bool u13.2.2.2.2.2, .agg #[.int .i64 p0_0, .int .i64 p0_1, .slice A0_2p p0_2.length c0_2p, .int .i64 p0_3, .int .i64 p0_4], .agg #[.int .i64 u18.1, .int .i64 u18.2.1, .slice A19 u18.2.2.1.length c19, .int .i64 u18.2.2.2.1, .int .i64 u18.2.2.2.2], .tuple #[.agg #[.int .i64 u23.1, .int .i64 u23.2.1, .slice A24 u23.2.2.1.length c24, .int .i64 u23.2.2.2.1, .int .i64 u23.2.2.2.2.1], .bool u23.2.2.2.2.2], .agg #[.int .i64 u18.1, .int .i64 u18.2.1, .slice A19 u18.2.2.1.length c19, .int .i64 u18.2.2.2.1, .int .i64 u18.2.2.2.2], .int .i64 p1, .tuple #[.agg #[.int .i64 u23.1, .int .i64 u23.2.1, .slice A24 u23.2.2.1.length c24, .int .i64 u23.2.2.2.1, .int .i64 u23.2.2.2.2.1], .bool u23.2.2.2.2.2], .agg #[.int .i64 u23.1, .int .i64 u23.2.1, .slice A24 u23.2.2.1.length c24, .int .i64 u23.2.2.2.1, .int .i64 u23.2.2.2.2.1], .bool u23.2.2.2.2.2, j36, j37, j38, j39, j40, j41, j42, j43, .bool x41, .agg #[.int .i64 u18.1, .int .i64 u18.2.1, .slice A19 u18.2.2.1.length c19, .int .i64 u18.2.2.2.1, .int .i64 u18.2.2.2.2], .agg #[.int .i64 p0_0, .int .i64 p0_1, .slice A0_2p p0_2.length c0_2p, .int .i64 p0_3, .int .i64 p0_4], .agg #[.int .i64 u49.1, .int .i64 u49.2.1, .slice A50 u49.2.2.1.length c50, .int .i64 u49.2.2.2.1, .int .i64 u49.2.2.2.2], .bool u51, .bool (!u51), .agg #[.int .i64 u18.1, .int .i64 u18.2.1, .slice A19 u18.2.2.1.length c19, .int .i64 u18.2.2.2.1, .int .i64 u18.2.2.2.2], .int .i64 1, .int .i64 u56.1, j53, j54, j55, j56, j57, j58, j59, j60, j61, j62, j63, j64, .bool x75, .agg #[.int .i64 u23.1, .int .i64 u23.2.1, .slice A24 u23.2.2.1.length c24, .int .i64 u23.2.2.2.1, .int .i64 u23.2.2.2.2.1], .int .i64 1, .int .i64 u84.1, .agg #[.int .i64 u23.1, .int .i64 u23.2.1, .slice A24 u23.2.2.1.length c24, .int .i64 u23.2.2.2.1, .int .i64 u23.2.2.2.2.1], .int .i64 1, .int .i64 u88, .int .i64 u88, .bool (decide (u88 < 0)), .int .i64 u88, .int .i64 u84.1, .bool (u88 != u84.1), .tuple #[.agg #[.int .i64 u100.1, .int .i64 u100.2.1, .slice A101 u100.2.2.1.length c101, .int .i64 u100.2.2.2.1, .int .i64 u100.2.2.2.2.1], .bool u100.2.2.2.2.2], .agg #[.int .i64 p0_0, .int .i64 p0_1, .slice A0_2p p0_2.length c0_2p, .int .i64 p0_3, .int .i64 p0_4], .agg #[.int .i64 u98.1, .int .i64 u98.2.1, .slice A99 u98.2.2.1.length c99, .int .i64 u98.2.2.2.1, .int .i64 u98.2.2.2.2], .int .i64 p1, .tuple #[.agg #[.int .i64 u100.1, .int .i64 u100.2.1, .slice A101 u100.2.2.1.length c101, .int .i64 u100.2.2.2.1, .int .i64 u100.2.2.2.2.1], .bool u100.2.2.2.2.2], .agg #[.int .i64 u100.1, .int .i64 u100.2.1, .slice A101 u100.2.2.1.length c101, .int .i64 u100.2.2.2.1, .int .i64 u100.2.2.2.2.1], .bool u100.2.2.2.2.2, getL l' 84, getL l' 85, getL l' 86, getL l' 87, getL l' 88, getL l' 89, getL l' 90, getL l' 91, .bool x118, undef, undef, undef, undef, undef, undef, undef, undef] ∧ Hp sb s F0 s' [Ck.ol OI 3 A24 c24 u84.2, Ck.ov b25 [.int .i64 u23.1, .int .i64 u23.2.1, .slice A24 u23.2.2.1.length c24, .int .i64 u23.2.2.2.1, .int .i64 u23.2.2.2.2.1] 55]) ?_ ?_
                  · intro K115 hK115
                    refine HT_region ?_
                    refine HL_cons rfl ?_
                    refine o_loads' [.int .i64 u100.1, .int .i64 u100.2.1, .slice A101 u100.2.2.1.length c101, .int .i64 u100.2.2.2.1, .int .i64 u100.2.2.2.2.1] rfl Try.underlying55 rfl tI55 rfl (hH.partv 8 rfl (0) [.int .i64 u100.1, .int .i64 u100.2.1, .slice A101 u100.2.2.1.length c101, .int .i64 u100.2.2.2.1, .int .i64 u100.2.2.2.2.1] rfl) ?_
                    try dsimp only [putL, setL, evL, getL]
                    refine HL_cons rfl ?_
                    refine o_loads' [.int .i64 u13.1, .int .i64 u13.2.1, .slice A14 u13.2.2.1.length c14, .int .i64 u13.2.2.2.1, .int .i64 u13.2.2.2.2.1] rfl Try.underlying55 rfl tI55 rfl (hH.partv 3 rfl (0) [.int .i64 u13.1, .int .i64 u13.2.1, .slice A14 u13.2.2.1.length c14, .int .i64 u13.2.2.2.1, .int .i64 u13.2.2.2.2.1] rfl) ?_
                    try dsimp only [putL, setL, evL, getL]
                    obtain ⟨u119, hu119, H⟩ := headE H
                    refine HL_cons rfl ?_
                    refine o_call (args := #[.agg #[.int .i64 u100.1, .int .i64 u100.2.1, .slice A101 u100.2.2.1.length c101, .int .i64 u100.2.2.2.1, .int .i64 u100.2.2.2.2.1], .agg #[.int .i64 u13.1, .int .i64 u13.2.1, .slice A14 u13.2.2.1.length c14, .int .i64 u13.2.2.2.1, .int .i64 u13.2.2.2.2.1]]) Try.func43 rfl rfl rfl (laws_eqScreen.ok s103 s103 no u100.1 u100.2.1 A101 c101 u100.2.2.1 u100.2.2.2.1 u100.2.2.2.2.1 u13.1 u13.2.1 A14 c14 u13.2.2.1 u13.2.2.2.1 u13.2.2.2.2.1 (hH.rd 7 rfl) (hH.rd 0 rfl) (Hp.own (Bs.refl s103)) _ hu119) ?_
                    rintro _ s119 ⟨rfl, hD⟩
                    replace hH := hH.back0T hD
                    clear hD
                    dsimp only [addC, setC, rmC, selC, getC] at hH
                    try dsimp only [putL, setL, evL, getL]
                    refine HL_cons rfl ?_
                    refine o_not rfl ?_
                    try dsimp only [putL, setL, evL, getL]
                    refine HL_cons rfl ?_
                    refine o_move ?_
                    try dsimp only [putL, setL, evL, getL]
                    rcases Bool.eq_false_or_eq_true (!u119) with hb120 | hb120
                    · replace H := iteT hb120 H
                      refine HL_skip ?_ ?_
                      · exact wantF (j := 4) (b := false) (t := 88) (c := !u119) rfl rfl rfl rfl hb120
                      try dsimp only [putL, setL, evL, getL]
                      refine HL_skip ?_ ?_
                      · exact wantF (j := 4) (b := false) (t := 88) (c := !u119) rfl rfl rfl rfl hb120
                      try dsimp only [putL, setL, evL, getL]
                      refine HL_skip ?_ ?_
                      · exact wantF (j := 4) (b := false) (t := 88) (c := !u119) rfl rfl rfl rfl hb120
                      try dsimp only [putL, setL, evL, getL]
                      refine HL_cons rfl ?_
                      refine o_pickT rfl hb120 ?_
                      try dsimp only [putL, setL, evL, getL]
                      refine HL_nil ?_
                      exact hK115 _ _ ⟨true, H, rfl, (by first | exact hH.sel [5, 4] (by decide) | (rw [hl85]; exact hH.sel [5, 4] (by decide)))⟩
                    · replace H := iteF hb120 H
                      refine HL_want ?_ ?_
                      · exact wantT (j := 4) (b := false) (t := 88) (c := !u119) rfl rfl rfl rfl hb120
                      refine o_move ?_
                      try dsimp only [putL, setL, evL, getL]
                      refine HL_want ?_ ?_
                      · exact wantT (j := 4) (b := false) (t := 88) (c := !u119) rfl rfl rfl rfl hb120
                      refine o_move ?_
                      try dsimp only [putL, setL, evL, getL]
                      refine HL_want ?_ ?_
                      · exact wantT (j := 4) (b := false) (t := 88) (c := !u119) rfl rfl rfl rfl hb120
                      refine o_neb rfl rfl Try.underlying4 ?_
                      try dsimp only [putL, setL, evL, getL]
                      refine HL_cons rfl ?_
                      refine o_pickF rfl hb120 ?_
                      try dsimp only [putL, setL, evL, getL]
                      refine HL_nil ?_
                      exact hK115 _ _ ⟨u100.2.2.2.2.2 != u13.2.2.2.2.2, H, rfl, (by first | exact hH.sel [5, 4] (by decide) | (rw [hl85]; exact hH.sel [5, 4] (by decide)))⟩
                  · rintro l' s121 ⟨x118, H, hl, hH⟩
                    generalize getL l' 84 = j84, getL l' 85 = j85, getL l' 86 = j86, getL l' 87 = j87, getL l' 88 = j88, getL l' 89 = j89, getL l' 90 = j90, getL l' 91 = j91 at hl
                    subst hl
                    replace H := hG115 _ H
                    try dsimp only at H
                    rcases Bool.eq_false_or_eq_true x118 with hb122 | hb122
                    · replace H := iteT hb122 H
                      refine HT_true (congrArg Value.bool hb122) ?_
                      refine HT_seq_k ?_
                      intro K123 hK123
                      refine HT_region ?_
                      refine HL_cons rfl ?_
                      refine o_assign ?_
                      try dsimp only [putL, setL, evL, getL]
                      refine HL_nil ?_
                      refine hK123 _ _ ?_
                      refine HT_ret ?_
                      obtain rfl := Option.some.inj (show some _ = some r from H)
                      exact hQr _ _ [.bool false] ⟨rfl, trivial⟩ ⟨rfl, hH.sel [] (by decide)⟩
                    · replace H := iteF hb122 H
                      refine HT_false (congrArg Value.bool hb122) ?_
                      refine HT_skip ?_
                      refine hK114 _ _ ?_
                      refine HT_seq_k ?_
                      intro K124 hK124
                      refine HT_region ?_
                      refine HL_cons rfl ?_
                      refine o_assign ?_
                      try dsimp only [putL, setL, evL, getL]
                      refine HL_nil ?_
                      refine hK124 _ _ ?_
                      refine HT_seq_k ?_
                      intro K125 hK125
                      refine HT_region ?_
                      refine HL_cons rfl ?_
                      refine o_loads' [.int .i64 u23.1, .int .i64 u23.2.1, .slice A24 u23.2.2.1.length c24, .int .i64 u23.2.2.2.1, .int .i64 u23.2.2.2.2.1] rfl Try.underlying55 rfl tI55 rfl (hH.partv 1 rfl (0) [.int .i64 u23.1, .int .i64 u23.2.1, .slice A24 u23.2.2.1.length c24, .int .i64 u23.2.2.2.1, .int .i64 u23.2.2.2.2.1] rfl) ?_
                      try dsimp only [putL, setL, evL, getL]
                      refine HL_cons rfl ?_
                      refine o_move ?_
                      try dsimp only [putL, setL, evL, getL]
                      obtain ⟨u126, hu126, H⟩ := headE H
                      refine HL_cons rfl ?_
                      refine o_call (args := #[.agg #[.int .i64 u23.1, .int .i64 u23.2.1, .slice A24 u84.2.length c24, .int .i64 u23.2.2.2.1, .int .i64 u23.2.2.2.2.1], .int .i64 1]) Try.func77 rfl rfl (by show ([.agg #[.int .i64 u23.1, .int .i64 u23.2.1, .slice A24 u23.2.2.1.length c24, .int .i64 u23.2.2.2.1, .int .i64 u23.2.2.2.2.1], .int .i64 1] : List Value) = [.agg #[.int .i64 u23.1, .int .i64 u23.2.1, .slice A24 u84.2.length c24, .int .i64 u23.2.2.2.1, .int .i64 u23.2.2.2.2.1], .int .i64 1]; rw [hl85]; first | done | rfl) (laws_heldScreen.ok s121 s121 no u23.1 u23.2.1 A24 c24 u84.2 u23.2.2.2.1 u23.2.2.2.2.1 1 (hH.rd 0 rfl) (Hp.own (Bs.refl s121)) _ hu126) ?_
                      rintro _ s126 ⟨rfl, hD⟩
                      replace hH := hH.back0T hD
                      clear hD
                      dsimp only [addC, setC, rmC, selC, getC] at hH
                      try dsimp only [putL, setL, evL, getL]
                      refine HL_cons rfl ?_
                      refine o_assign ?_
                      try dsimp only [putL, setL, evL, getL]
                      refine HL_nil ?_
                      refine hK125 _ _ ?_
                      refine HT_seq_k ?_
                      intro K127 hK127
                      refine HT_seq_k ?_
                      intro K128 hK128
                      refine HT_region ?_
                      refine HL_cons rfl ?_
                      refine o_move ?_
                      try dsimp only [putL, setL, evL, getL]
                      refine HL_cons rfl ?_
                      refine o_bin rfl rfl rfl ?_
                      try dsimp only [putL, setL, evL, getL]
                      refine HL_nil ?_
                      refine hK128 _ _ ?_
                      rcases Bool.eq_false_or_eq_true (decide (u126 < 0)) with hb129 | hb129
                      · replace H := iteT hb129 H
                        refine HT_true (congrArg Value.bool hb129) ?_
                        refine HT_seq_k ?_
                        intro K130 hK130
                        refine HT_region ?_
                        refine HL_cons rfl ?_
                        refine o_assign ?_
                        try dsimp only [putL, setL, evL, getL]
                        refine HL_nil ?_
                        refine hK130 _ _ ?_
                        refine HT_ret ?_
                        obtain rfl := Option.some.inj (show some _ = some r from H)
                        exact hQr _ _ [.bool false] ⟨rfl, trivial⟩ ⟨rfl, hH.sel [] (by decide)⟩
                      · replace H := iteF hb129 H
                        refine HT_false (congrArg Value.bool hb129) ?_
                        refine HT_skip ?_
                        refine hK127 _ _ ?_
                        refine HT_seq_k ?_
                        intro K131 hK131
                        refine HT_seq_k ?_
                        intro K132 hK132
                        refine HT_region ?_
                        refine HL_cons rfl ?_
                        refine o_move ?_
                        try dsimp only [putL, setL, evL, getL]
                        refine HL_cons rfl ?_
                        refine o_move ?_
                        try dsimp only [putL, setL, evL, getL]
                        refine HL_cons rfl ?_
                        refine o_bin rfl rfl rfl ?_
                        try dsimp only [putL, setL, evL, getL]
                        refine HL_nil ?_
                        refine hK132 _ _ ?_
                        rcases Bool.eq_false_or_eq_true (u126 != u84.1) with hb133 | hb133
                        · replace H := iteT hb133 H
                          refine HT_true (congrArg Value.bool hb133) ?_
                          refine HT_seq_k ?_
                          intro K134 hK134
                          refine HT_region ?_
                          refine HL_cons rfl ?_
                          refine o_assign ?_
                          try dsimp only [putL, setL, evL, getL]
                          refine HL_nil ?_
                          refine hK134 _ _ ?_
                          refine HT_ret ?_
                          obtain rfl := Option.some.inj (show some _ = some r from H)
                          exact hQr _ _ [.bool false] ⟨rfl, trivial⟩ ⟨rfl, hH.sel [] (by decide)⟩
                        · replace H := iteF hb133 H
                          refine HT_false (congrArg Value.bool hb133) ?_
                          refine HT_skip ?_
                          refine hK131 _ _ ?_
                          refine HT_seq_k ?_
                          intro K135 hK135
                          refine HT_region ?_
                          refine HL_cons rfl ?_
                          refine o_assign ?_
                          try dsimp only [putL, setL, evL, getL]
                          refine HL_nil ?_
                          refine hK135 _ _ ?_
                          refine HT_ret ?_
                          obtain rfl := Option.some.inj (show some _ = some r from H)
                          exact hQr _ _ [.bool true] ⟨rfl, trivial⟩ ⟨rfl, hH.sel [] (by decide)⟩
end Go.Proofs.Ytopecknfnhocpaa
