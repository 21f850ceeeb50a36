/- The functions that the law reaches, as plain functions, each with its contract: printed by a program of the prover's. No conditions: lemmas. -/
import Derived.Test.YtopecknfnhocpaaProg
import Derived.Test.YtopecknfnhocpaaGH
set_option linter.unusedVariables false
set_option linter.unusedSimpArgs false
namespace Go.Proofs.Ytopecknfnhocpaa
open Go Go.Proofs.GL
theorem tI3 : TI Try.prog 3 (.int .i64 0) 1 8 := by unfold TI; kernel_rfl
theorem tI22 : TI Try.prog 22 (.slice none 0 0) 1 24 := by unfold TI; kernel_rfl
theorem tI29 : TI Try.prog 29 (.agg #[.int .i64 0, .slice none 0 0, .slice none 0 0, .int .i64 0]) 4 64 := by unfold TI; kernel_rfl
theorem tI31 : TI Try.prog 31 (.agg #[.int .i64 0, .slice none 0 0, .slice none 0 0, .int .i64 0]) 4 64 := by unfold TI; kernel_rfl
theorem hMix : Try.prog.follows .mixedOrders = true := by kernel_rfl
def laws_szIntS.f (p0 : List (Int)) (p1 : Int) : Option Int := if (decide ((IntKind.i64.wrap (p1 - (p0.length : Int))) < 0)) = true then (some (-1)) else (some (IntKind.i64.wrap (p1 - (p0.length : Int))))
def laws_szIntS.post (sb s : St) (F0 : Fp) (r : Int) : Value → St → Prop := fun v s' => v = .int .i64 r ∧ Hp sb s F0 s' []
set_option maxRecDepth 100000 in
set_option maxHeartbeats 4000000 in
theorem laws_szIntS.ok (sb s : St) (F0 : Fp) (A0p : Option Addr) (c0p : Nat) (p0 : List (Int)) (p1 : Int) (HRp0 : Rd KI sb A0p c0p p0) (hH : Hp sb s F0 s []) (r : Int) (H : laws_szIntS.f p0 p1 = some r) : GCall Try.prog 83 #[.slice A0p p0.length c0p, .int .i64 p1] s (laws_szIntS.post sb s F0 r) := by
  refine GCall_ofk [.tmp 4] [.slice A0p p0.length c0p, .int .i64 p1, undef, undef, undef, undef, undef, undef, undef, undef, undef, undef] Try.func83 rfl rfl rfl ?_
  intro w Q hQr hQn hQp
  replace H := topE H
  unfold laws_szIntS.f at H
  refine HT_seq_k ?_
  intro K1 hK1
  refine HT_region ?_
  refine HL_cons rfl ?_
  refine o_assign ?_
  try dsimp only [putL, setL, evL, getL]
  refine HL_nil ?_
  refine hK1 _ _ ?_
  refine HT_seq_k ?_
  intro K2 hK2
  refine HT_region ?_
  refine HL_cons rfl ?_
  refine o_move ?_
  try dsimp only [putL, setL, evL, getL]
  refine HL_cons rfl ?_
  refine o_move ?_
  try dsimp only [putL, setL, evL, getL]
  refine HL_cons rfl ?_
  refine o_len rfl Try.underlying22 ?_
  try dsimp only [putL, setL, evL, getL]
  refine HL_cons rfl ?_
  refine o_bin rfl rfl rfl ?_
  try dsimp only [putL, setL, evL, getL]
  refine HL_cons rfl ?_
  refine o_assign ?_
  try dsimp only [putL, setL, evL, getL]
  refine HL_nil ?_
  refine hK2 _ _ ?_
  refine HT_seq_k ?_
  intro K3 hK3
  refine HT_seq_k ?_
  intro K4 hK4
  refine HT_region ?_
  refine HL_cons rfl ?_
  refine o_move ?_
  try dsimp only [putL, setL, evL, getL]
  refine HL_cons rfl ?_
  refine o_bin rfl rfl rfl ?_
  try dsimp only [putL, setL, evL, getL]
  refine HL_nil ?_
  refine hK4 _ _ ?_
  rcases Bool.eq_false_or_eq_true (decide ((IntKind.i64.wrap (p1 - (p0.length : Int))) < 0)) with hb5 | hb5
  · replace H := iteT hb5 H
    refine HT_true (congrArg Value.bool hb5) ?_
    refine HT_seq_k ?_
    intro K6 hK6
    refine HT_region ?_
    refine HL_cons rfl ?_
    refine o_assign ?_
    try dsimp only [putL, setL, evL, getL]
    refine HL_nil ?_
    refine hK6 _ _ ?_
    refine HT_ret ?_
    obtain rfl := Option.some.inj (show some _ = some r from H)
    exact hQr _ _ [.int .i64 (-1)] ⟨rfl, trivial⟩ ⟨rfl, hH⟩
  · replace H := iteF hb5 H
    refine HT_false (congrArg Value.bool hb5) ?_
    refine HT_skip ?_
    refine hK3 _ _ ?_
    refine HT_seq_k ?_
    intro K7 hK7
    refine HT_region ?_
    refine HL_cons rfl ?_
    refine o_move ?_
    try dsimp only [putL, setL, evL, getL]
    refine HL_cons rfl ?_
    refine o_assign ?_
    try dsimp only [putL, setL, evL, getL]
    refine HL_nil ?_
    refine hK7 _ _ ?_
    refine HT_ret ?_
    obtain rfl := Option.some.inj (show some _ = some r from H)
    exact hQr _ _ [.int .i64 (IntKind.i64.wrap (p1 - (p0.length : Int)))] ⟨rfl, trivial⟩ ⟨rfl, hH⟩
def laws_szBuf.f (p0_0 : Int) (p0_1 : List (Int)) (p0_2 : List (Int)) (p0_3 : Int) (p1 : Int) : Option Int := (laws_szIntS.f p0_1 p1).bind fun u4 => if (decide (u4 < 0)) = true then (some (-1)) else ((laws_szIntS.f p0_2 u4).bind fun u10 => if (decide (u10 < 0)) = true then (some (-1)) else (some u10))
def laws_szBuf.post (sb s : St) (F0 : Fp) (r : Int) : Value → St → Prop := fun v s' => v = .int .i64 r ∧ Hp sb s F0 s' []
set_option maxRecDepth 100000 in
set_option maxHeartbeats 4000000 in
theorem laws_szBuf.ok (sb s : St) (F0 : Fp) (p0_0 : Int) (A0_1p : Option Addr) (c0_1p : Nat) (p0_1 : List (Int)) (A0_2p : Option Addr) (c0_2p : Nat) (p0_2 : List (Int)) (p0_3 : Int) (p1 : Int) (HRp0_1 : Rd KI sb A0_1p c0_1p p0_1) (HRp0_2 : Rd KI sb A0_2p c0_2p p0_2) (hH : Hp sb s F0 s []) (r : Int) (H : laws_szBuf.f p0_0 p0_1 p0_2 p0_3 p1 = some r) : GCall Try.prog 21 #[.agg #[.int .i64 p0_0, .slice A0_1p p0_1.length c0_1p, .slice A0_2p p0_2.length c0_2p, .int .i64 p0_3], .int .i64 p1] s (laws_szBuf.post sb s F0 r) := by
  refine GCall_ofk [.tmp 4] [.agg #[.int .i64 p0_0, .slice A0_1p p0_1.length c0_1p, .slice A0_2p p0_2.length c0_2p, .int .i64 p0_3], .int .i64 p1, undef, undef, undef, undef, undef, undef, undef, undef, undef, undef, undef, undef, undef, undef, undef, undef] Try.func21 rfl rfl rfl ?_
  intro w Q hQr hQn hQp
  replace H := topE H
  unfold laws_szBuf.f at H
  refine HT_seq_k ?_
  intro K1 hK1
  refine HT_region ?_
  refine HL_cons rfl ?_
  refine o_boxH hH rfl ?_
  intro b2 s2 hH' hG
  replace hH : Hp sb s F0 s2 [Ck.ov b2 [.int .i64 p0_0, .slice A0_1p p0_1.length c0_1p, .slice A0_2p p0_2.length c0_2p, .int .i64 p0_3] 29] := hH'
  clear hH' hG
  try dsimp only [putL, setL, evL, getL]
  refine HL_cons rfl ?_
  refine o_assign ?_
  try dsimp only [putL, setL, evL, getL]
  refine HL_nil ?_
  refine hK1 _ _ ?_
  refine HT_seq_k ?_
  intro K3 hK3
  refine HT_region ?_
  refine HL_cons rfl ?_
  refine o_faddr' (ft := 22) (off := 1) rfl Try.underlying29 rfl tI22 (by decide) ?_
  try dsimp only [putL, setL, evL, getL]
  refine HL_cons rfl ?_
  refine o_load' rfl Try.underlying22 rfl (hH.hasv 0 rfl rfl) ?_
  try dsimp only [putL, setL, evL, getL]
  refine HL_cons rfl ?_
  refine o_move ?_
  try dsimp only [putL, setL, evL, getL]
  obtain ⟨u4, hu4, H⟩ := headE H
  refine HL_cons rfl ?_
  refine o_call (args := #[.slice A0_1p p0_1.length c0_1p, .int .i64 p1]) Try.func83 rfl rfl rfl (laws_szIntS.ok sb s2 no A0_1p c0_1p p0_1 p1 HRp0_1 (Hp.own hH.bs) _ hu4) ?_
  rintro _ s4 ⟨rfl, hD⟩
  replace hH := hH.back0 hD (Up.refl _ _ _)
  clear hD
  dsimp only [addC, setC, rmC, selC, getC] at hH
  try dsimp only [putL, setL, evL, getL]
  refine HL_cons rfl ?_
  refine o_assign ?_
  try dsimp only [putL, setL, evL, getL]
  refine HL_nil ?_
  refine hK3 _ _ ?_
  refine HT_seq_k ?_
  intro K5 hK5
  refine HT_seq_k ?_
  intro K6 hK6
  refine HT_region ?_
  refine HL_cons rfl ?_
  refine o_move ?_
  try dsimp only [putL, setL, evL, getL]
  refine HL_cons rfl ?_
  refine o_bin rfl rfl rfl ?_
  try dsimp only [putL, setL, evL, getL]
  refine HL_nil ?_
  refine hK6 _ _ ?_
  rcases Bool.eq_false_or_eq_true (decide (u4 < 0)) with hb7 | hb7
  · replace H := iteT hb7 H
    refine HT_true (congrArg Value.bool hb7) ?_
    refine HT_seq_k ?_
    intro K8 hK8
    refine HT_region ?_
    refine HL_cons rfl ?_
    refine o_assign ?_
    try dsimp only [putL, setL, evL, getL]
    refine HL_nil ?_
    refine hK8 _ _ ?_
    refine HT_ret ?_
    obtain rfl := Option.some.inj (show some _ = some r from H)
    exact hQr _ _ [.int .i64 (-1)] ⟨rfl, trivial⟩ ⟨rfl, hH.sel [] (by decide)⟩
  · replace H := iteF hb7 H
    refine HT_false (congrArg Value.bool hb7) ?_
    refine HT_skip ?_
    refine hK5 _ _ ?_
    refine HT_seq_k ?_
    intro K9 hK9
    refine HT_region ?_
    refine HL_cons rfl ?_
    refine o_faddr' (ft := 22) (off := 2) rfl Try.underlying29 rfl tI22 (by decide) ?_
    try dsimp only [putL, setL, evL, getL]
    refine HL_cons rfl ?_
    refine o_load' rfl Try.underlying22 rfl (hH.hasv 0 rfl rfl) ?_
    try dsimp only [putL, setL, evL, getL]
    refine HL_cons rfl ?_
    refine o_move ?_
    try dsimp only [putL, setL, evL, getL]
    obtain ⟨u10, hu10, H⟩ := headE H
    refine HL_cons rfl ?_
    refine o_call (args := #[.slice A0_2p p0_2.length c0_2p, .int .i64 u4]) Try.func83 rfl rfl rfl (laws_szIntS.ok sb s4 no A0_2p c0_2p p0_2 u4 HRp0_2 (Hp.own hH.bs) _ hu10) ?_
    rintro _ s10 ⟨rfl, hD⟩
    replace hH := hH.back0 hD (Up.refl _ _ _)
    clear hD
    dsimp only [addC, setC, rmC, selC, getC] at hH
    try dsimp only [putL, setL, evL, getL]
    refine HL_cons rfl ?_
    refine o_assign ?_
    try dsimp only [putL, setL, evL, getL]
    refine HL_nil ?_
    refine hK9 _ _ ?_
    refine HT_seq_k ?_
    intro K11 hK11
    refine HT_seq_k ?_
    intro K12 hK12
    refine HT_region ?_
    refine HL_cons rfl ?_
    refine o_move ?_
    try dsimp only [putL, setL, evL, getL]
    refine HL_cons rfl ?_
    refine o_bin rfl rfl rfl ?_
    try dsimp only [putL, setL, evL, getL]
    refine HL_nil ?_
    refine hK12 _ _ ?_
    rcases Bool.eq_false_or_eq_true (decide (u10 < 0)) with hb13 | hb13
    · replace H := iteT hb13 H
      refine HT_true (congrArg Value.bool hb13) ?_
      refine HT_seq_k ?_
      intro K14 hK14
      refine HT_region ?_
      refine HL_cons rfl ?_
      refine o_assign ?_
      try dsimp only [putL, setL, evL, getL]
      refine HL_nil ?_
      refine hK14 _ _ ?_
      refine HT_ret ?_
      obtain rfl := Option.some.inj (show some _ = some r from H)
      exact hQr _ _ [.int .i64 (-1)] ⟨rfl, trivial⟩ ⟨rfl, hH.sel [] (by decide)⟩
    · replace H := iteF hb13 H
      refine HT_false (congrArg Value.bool hb13) ?_
      refine HT_skip ?_
      refine hK11 _ _ ?_
      refine HT_seq_k ?_
      intro K15 hK15
      refine HT_region ?_
      refine HL_cons rfl ?_
      refine o_move ?_
      try dsimp only [putL, setL, evL, getL]
      refine HL_cons rfl ?_
      refine o_assign ?_
      try dsimp only [putL, setL, evL, getL]
      refine HL_nil ?_
      refine hK15 _ _ ?_
      refine HT_ret ?_
      obtain rfl := Option.some.inj (show some _ = some r from H)
      exact hQr _ _ [.int .i64 u10] ⟨rfl, trivial⟩ ⟨rfl, hH.sel [] (by decide)⟩
def laws_toIntS.l1 (p0 : List (Int)) : Nat → (List (Int)) → Int → Option (List (Int))
  | 0, _, _ => none
  | kf + 1, x41, x42 => if (decide (x42 < (p0.length : Int))) = true then ((rd? p0 x42).bind fun u57 => (rd? x41 x42).bind fun u58 => (st? x41 x42 u57).bind fun x59 => laws_toIntS.l1 p0 kf x59 (IntKind.i64.wrap (x42 + 1))) else (some x41)
def laws_toIntS.f (p0 : List (Int)) : Option (List (Int)) := (mk? 17592186044416 0 (p0.length : Int)).bind fun x3 => (laws_toIntS.l1 p0 ((((p0.length : Int)) - (0)).toNat + 2) x3 0).bind fun (o : (List (Int))) => match o with | x33 => (some x33)
def laws_toIntS.post (sb s : St) (F0 : Fp) (r : (List (Int))) : Value → St → Prop := fun v s' => ∃ (A0 : Option Addr) (c0 : Nat), v = .slice A0 r.length c0 ∧ Hp sb s F0 s' [Ck.ol OI 3 A0 c0 r]
set_option maxRecDepth 100000 in
set_option maxHeartbeats 4000000 in
theorem laws_toIntS.ok (sb s : St) (F0 : Fp) (A0p : Option Addr) (c0p : Nat) (p0 : List (Int)) (HRp0 : Rd KI sb A0p c0p p0) (hH : Hp sb s F0 s []) (r : (List (Int))) (H : laws_toIntS.f p0 = some r) : GCall Try.prog 16 #[.slice A0p p0.length c0p] s (laws_toIntS.post sb s F0 r) := by
  refine GCall_ofk [.tmp 2] [.slice A0p p0.length c0p, undef, undef, undef, undef, undef, undef, undef, undef, undef, undef, undef, undef, undef, undef, undef, undef, undef, undef, undef, undef, undef] Try.func16 rfl rfl rfl ?_
  intro w Q hQr hQn hQp
  replace H := topE H
  unfold laws_toIntS.f at H
  refine HT_seq_k ?_
  intro K1 hK1
  refine HT_region ?_
  refine HL_cons rfl ?_
  refine o_assign ?_
  try dsimp only [putL, setL, evL, getL]
  refine HL_nil ?_
  refine hK1 _ _ ?_
  refine HT_seq_k ?_
  intro K2 hK2
  refine HT_region ?_
  refine HL_cons rfl ?_
  refine o_move ?_
  try dsimp only [putL, setL, evL, getL]
  refine HL_cons rfl ?_
  refine o_len rfl Try.underlying22 ?_
  try dsimp only [putL, setL, evL, getL]
  obtain ⟨x3, hx3, H⟩ := headE H
  refine HL_cons rfl ?_
  refine o_makeH (K := KI) (O := OI) (x0 := 0) hH rfl Try.underlying22 tI3 rfl (by decide) (by decide) (by decide) (Own0.fl fun _ => rfl) hx3 ?_
  intro A3 c3 s3 hH' hG
  replace hH : Hp sb s F0 s3 [Ck.ol OI 3 A3 c3 x3] := hH'
  clear hH' hG
  try dsimp only [putL, setL, evL, getL]
  refine HL_cons rfl ?_
  refine o_assign ?_
  try dsimp only [putL, setL, evL, getL]
  refine HL_nil ?_
  refine hK2 _ _ ?_
  refine HT_seq_k ?_
  intro K4 hK4
  refine HT_seq_k ?_
  intro K5 hK5
  refine HT_region ?_
  refine HL_cons rfl ?_
  refine o_assign ?_
  try dsimp only [putL, setL, evL, getL]
  refine HL_nil ?_
  refine hK5 _ _ ?_
  refine joinH H fun G6 hG6 H => ?_
  refine HT_toK (fun l' s' => ∃ (x33 : List (Int)), G6 x33 = some r ∧ l' = [.slice A0p p0.length c0p, undef, .slice none 0 0, .slice A3 x3.length c3, getL l' 4, .slice A0p p0.length c0p, .int .i64 (p0.length : Int), .slice A3 x3.length c3, getL l' 8, getL l' 9, getL l' 10, getL l' 11, getL l' 12, getL l' 13, getL l' 14, getL l' 15, getL l' 16, getL l' 17, getL l' 18, getL l' 19, getL l' 20, undef] ∧ Hp sb s F0 s' [Ck.ol OI 3 A3 c3 x33] ∧ x33.length = x3.length) ?_ ?_
  · intro K6 hK6
    refine HT_block ?_
    refine HT_loopK (fun kf l' s' => ∃ (x41 : List (Int)) (x42 : Int), (laws_toIntS.l1 p0 kf x41 x42).bind G6 = some r ∧ l' = [.slice A0p p0.length c0p, undef, .slice none 0 0, .slice A3 x3.length c3, .int .i64 x42, .slice A0p p0.length c0p, .int .i64 (p0.length : Int), .slice A3 x3.length c3, getL l' 8, getL l' 9, getL l' 10, getL l' 11, getL l' 12, getL l' 13, getL l' 14, getL l' 15, getL l' 16, getL l' 17, getL l' 18, getL l' 19, getL l' 20, undef] ∧ Hp sb s F0 s' [Ck.ol OI 3 A3 c3 x41] ∧ x41.length = x3.length) ((((p0.length : Int)) - (0)).toNat + 2) ⟨x3, 0, H, rfl, hH, rfl⟩ ?_
    rintro kf l' s52 ⟨x41, x42, H, hl, hH, hl41⟩ K52 hK52
    generalize getL l' 8 = j8, getL l' 9 = j9, getL l' 10 = j10, getL l' 11 = j11, getL l' 12 = j12, getL l' 13 = j13, getL l' 14 = j14, getL l' 15 = j15, getL l' 16 = j16, getL l' 17 = j17, getL l' 18 = j18, getL l' 19 = j19, getL l' 20 = j20 at hl
    subst hl
    cases kf with
    | zero => simp [laws_toIntS.l1] at H
    | succ kf =>
      rw [laws_toIntS.l1] at H
      refine HT_seq_k ?_
      intro K53 hK53
      refine HT_seq_k ?_
      intro K54 hK54
      refine HT_region ?_
      refine HL_cons rfl ?_
      refine o_move ?_
      try dsimp only [putL, setL, evL, getL]
      refine HL_cons rfl ?_
      refine o_move ?_
      try dsimp only [putL, setL, evL, getL]
      refine HL_cons rfl ?_
      refine o_len rfl Try.underlying22 ?_
      try dsimp only [putL, setL, evL, getL]
      refine HL_cons rfl ?_
      refine o_bin rfl rfl rfl ?_
      try dsimp only [putL, setL, evL, getL]
      refine HL_nil ?_
      refine hK54 _ _ ?_
      rcases Bool.eq_false_or_eq_true (decide (x42 < (p0.length : Int))) with hb55 | hb55
      · replace H := iteT hb55 H
        refine HT_true (congrArg Value.bool hb55) ?_
        refine HT_skip ?_
        refine hK53 _ _ ?_
        refine HT_seq_k ?_
        intro K56 hK56
        refine HT_block ?_
        refine HT_region ?_
        refine HL_cons rfl ?_
        refine o_move ?_
        try dsimp only [putL, setL, evL, getL]
        refine HL_cons rfl ?_
        refine o_move ?_
        try dsimp only [putL, setL, evL, getL]
        refine HL_cons rfl ?_
        refine o_move ?_
        try dsimp only [putL, setL, evL, getL]
        refine HL_cons rfl ?_
        refine o_move ?_
        try dsimp only [putL, setL, evL, getL]
        obtain ⟨u57, hu57, H⟩ := headE H
        obtain ⟨b57, o57, cs57, hr57, hh57, hel57⟩ := Rd.elb HRp0 hu57
        obtain rfl := hr57
        refine HL_cons rfl ?_
        refine hel57 s52 rfl rfl Try.underlying22 tI3 ?_
        try dsimp only [putL, setL, evL, getL]
        refine HL_cons rfl ?_
        refine o_load' rfl Try.underlying3 rfl ((hh57 hH.bs.mono) 0 _ rfl) ?_
        try dsimp only [putL, setL, evL, getL]
        obtain ⟨u58, hu58, H⟩ := headE H
        obtain ⟨b58, o58, cs58, hA58, hr58, hh58, hel58⟩ := hH.elo 0 rfl hu58
        obtain rfl := hr58
        refine HL_cons rfl ?_
        refine hel58 s52 (sliceLen hl41) rfl Try.underlying22 tI3 ?_
        try dsimp only [putL, setL, evL, getL]
        obtain ⟨x59, hx59, H⟩ := headE H
        refine HL_cons rfl ?_
        refine o_setF (vs := [.int .i64 u57]) (u := u57) hH 0 rfl rfl rfl rfl rfl tI3 hA58 hx59 (Ent.own (Ent.flat rfl)) ?_
        intro s59 hH'
        have hl59 := (st?_len hx59).trans hl41
        replace hH : Hp sb s F0 s59 [Ck.ol OI 3 A3 c3 x59] := hH'
        clear hH'
        try dsimp only [putL, setL, evL, getL]
        refine HL_nil ?_
        refine hK56 _ _ ?_
        refine HT_region ?_
        refine HL_cons rfl ?_
        refine o_move ?_
        try dsimp only [putL, setL, evL, getL]
        refine HL_cons rfl ?_
        refine o_bin rfl rfl rfl ?_
        try dsimp only [putL, setL, evL, getL]
        refine HL_cons rfl ?_
        refine o_assign ?_
        try dsimp only [putL, setL, evL, getL]
        refine HL_nil ?_
        exact hK52 _ _ ⟨kf, Nat.lt_succ_self kf, x59, IntKind.i64.wrap (x42 + 1), H, rfl, hH, hl59⟩
      · replace H := iteF hb55 H
        refine HT_false (congrArg Value.bool hb55) ?_
        refine HT_exit ?_
        exact hK6 _ _ ⟨x41, H, rfl, hH, hl41⟩
  · rintro l' s60 ⟨x33, H, hl, hH, hl33⟩
    generalize getL l' 4 = j4, getL l' 8 = j8, getL l' 9 = j9, getL l' 10 = j10, getL l' 11 = j11, getL l' 12 = j12, getL l' 13 = j13, getL l' 14 = j14, getL l' 15 = j15, getL l' 16 = j16, getL l' 17 = j17, getL l' 18 = j18, getL l' 19 = j19, getL l' 20 = j20 at hl
    subst hl
    replace H := hG6 _ H
    try dsimp only at H
    refine hK4 _ _ ?_
    refine HT_seq_k ?_
    intro K61 hK61
    refine HT_region ?_
    refine HL_cons rfl ?_
    refine o_move ?_
    try dsimp only [putL, setL, evL, getL]
    refine HL_cons rfl ?_
    refine o_assign ?_
    try dsimp only [putL, setL, evL, getL]
    refine HL_nil ?_
    refine hK61 _ _ ?_
    refine HT_ret ?_
    obtain rfl := Option.some.inj (show some _ = some r from H)
    exact hQr _ _ [.slice A3 x3.length c3] ⟨rfl, trivial⟩ ⟨A3, c3, (by first | (rw [hl33]; first | done | rfl) | rfl), hH⟩
def laws_toBuf.f (p0_0 : Int) (p0_1 : List (Int)) (p0_2 : List (Int)) (p0_3 : Int) : Option (Int × (List (Int)) × (List (Int)) × Int) := (laws_toIntS.f p0_1).bind fun u9 => (laws_toIntS.f p0_2).bind fun u13 => some (p0_0, u9, u13, p0_3)
def laws_toBuf.post (sb s : St) (F0 : Fp) (r : Int × (List (Int)) × (List (Int)) × Int) : Value → St → Prop := fun v s' => ∃ (A1 : Option Addr) (c1 : Nat) (A2 : Option Addr) (c2 : Nat), v = .agg #[.int .i64 r.1, .slice A1 r.2.1.length c1, .slice A2 r.2.2.1.length c2, .int .i64 r.2.2.2] ∧ Hp sb s F0 s' [Ck.ol OI 3 A1 c1 r.2.1, Ck.ol OI 3 A2 c2 r.2.2.1]
set_option maxRecDepth 100000 in
set_option maxHeartbeats 4000000 in
theorem laws_toBuf.ok (sb s : St) (F0 : Fp) (p0_0 : Int) (A0_1p : Option Addr) (c0_1p : Nat) (p0_1 : List (Int)) (A0_2p : Option Addr) (c0_2p : Nat) (p0_2 : List (Int)) (p0_3 : Int) (HRp0_1 : Rd KI sb A0_1p c0_1p p0_1) (HRp0_2 : Rd KI sb A0_2p c0_2p p0_2) (hH : Hp sb s F0 s []) (r : Int × (List (Int)) × (List (Int)) × Int) (H : laws_toBuf.f p0_0 p0_1 p0_2 p0_3 = some r) : GCall Try.prog 23 #[.agg #[.int .i64 p0_0, .slice A0_1p p0_1.length c0_1p, .slice A0_2p p0_2.length c0_2p, .int .i64 p0_3]] s (laws_toBuf.post sb s F0 r) := by
  refine GCall_ofk [.cell 2 31] [.agg #[.int .i64 p0_0, .slice A0_1p p0_1.length c0_1p, .slice A0_2p p0_2.length c0_2p, .int .i64 p0_3], undef, undef, undef, undef, undef, undef, undef, undef, undef, undef, undef, undef, undef, undef, undef, undef, undef, undef] Try.func23 rfl rfl rfl ?_
  intro w Q hQr hQn hQp
  replace H := topE H
  unfold laws_toBuf.f at H
  refine HT_seq_k ?_
  intro K1 hK1
  refine HT_region ?_
  refine HL_cons rfl ?_
  refine o_boxH hH rfl ?_
  intro b2 s2 hH' hG
  replace hH : Hp sb s F0 s2 [Ck.ov b2 [.int .i64 p0_0, .slice A0_1p p0_1.length c0_1p, .slice A0_2p p0_2.length c0_2p, .int .i64 p0_3] 29] := hH'
  clear hH' hG
  try dsimp only [putL, setL, evL, getL]
  refine HL_cons rfl ?_
  refine o_allocH hH tI31 ?_
  intro b3 s3 hH' hG
  replace hH : Hp sb s F0 s3 [Ck.ov b2 [.int .i64 p0_0, .slice A0_1p p0_1.length c0_1p, .slice A0_2p p0_2.length c0_2p, .int .i64 p0_3] 29, Ck.ov b3 [.int .i64 0, .slice none 0 0, .slice none 0 0, .int .i64 0] 31] := hH'
  clear hH' hG
  try dsimp only [putL, setL, evL, getL]
  refine HL_nil ?_
  refine hK1 _ _ ?_
  refine HT_seq_k ?_
  intro K4 hK4
  refine HT_region ?_
  refine HL_cons rfl ?_
  refine o_allocH hH tI31 ?_
  intro b5 s5 hH' hG
  replace hH : Hp sb s F0 s5 [Ck.ov b2 [.int .i64 p0_0, .slice A0_1p p0_1.length c0_1p, .slice A0_2p p0_2.length c0_2p, .int .i64 p0_3] 29, Ck.ov b3 [.int .i64 0, .slice none 0 0, .slice none 0 0, .int .i64 0] 31, Ck.ov b5 [.int .i64 0, .slice none 0 0, .slice none 0 0, .int .i64 0] 31] := hH'
  clear hH' hG
  try dsimp only [putL, setL, evL, getL]
  refine HL_nil ?_
  refine hK4 _ _ ?_
  refine HT_seq_k ?_
  intro K6 hK6
  refine HT_region ?_
  refine HL_cons rfl ?_
  refine o_faddr' (ft := 3) (off := 0) rfl Try.underlying29 rfl tI3 (by decide) ?_
  try dsimp only [putL, setL, evL, getL]
  refine HL_cons rfl ?_
  refine o_load' rfl Try.underlying3 rfl (hH.hasv 0 rfl rfl) ?_
  try dsimp only [putL, setL, evL, getL]
  refine HL_cons rfl ?_
  refine o_faddr' (ft := 3) (off := 0) rfl Try.underlying31 rfl tI3 (by decide) ?_
  try dsimp only [putL, setL, evL, getL]
  refine HL_cons rfl ?_
  refine o_stvH (vs := [.int .i64 p0_0]) (us' := [.int .i64 p0_0, .slice none 0 0, .slice none 0 0, .int .i64 0]) hH 2 rfl rfl rfl rfl rfl tI3 rfl (List.cons_ne_nil _ _) rfl rfl rfl ?_
  intro s7 hH'
  replace hH : Hp sb s F0 s7 [Ck.ov b2 [.int .i64 p0_0, .slice A0_1p p0_1.length c0_1p, .slice A0_2p p0_2.length c0_2p, .int .i64 p0_3] 29, Ck.ov b3 [.int .i64 0, .slice none 0 0, .slice none 0 0, .int .i64 0] 31, Ck.ov b5 [.int .i64 p0_0, .slice none 0 0, .slice none 0 0, .int .i64 0] 31] := hH'
  clear hH'
  try dsimp only [putL, setL, evL, getL]
  refine HL_nil ?_
  refine hK6 _ _ ?_
  refine HT_seq_k ?_
  intro K8 hK8
  refine HT_region ?_
  refine HL_cons rfl ?_
  refine o_faddr' (ft := 22) (off := 1) rfl Try.underlying29 rfl tI22 (by decide) ?_
  try dsimp only [putL, setL, evL, getL]
  refine HL_cons rfl ?_
  refine o_load' rfl Try.underlying22 rfl (hH.hasv 0 rfl rfl) ?_
  try dsimp only [putL, setL, evL, getL]
  obtain ⟨u9, hu9, H⟩ := headE H
  refine HL_cons rfl ?_
  refine o_call (args := #[.slice A0_1p p0_1.length c0_1p]) Try.func16 rfl rfl rfl (laws_toIntS.ok sb s7 no A0_1p c0_1p p0_1 HRp0_1 (Hp.own hH.bs) _ hu9) ?_
  rintro _ s9 ⟨A10, c10, rfl, hD⟩
  replace hH := hH.back0 hD (Up.refl _ _ _)
  clear hD
  dsimp only [addC, setC, rmC, selC, getC] at hH
  try dsimp only [putL, setL, evL, getL]
  refine HL_cons rfl ?_
  refine o_faddr' (ft := 22) (off := 1) rfl Try.underlying31 rfl tI22 (by decide) ?_
  try dsimp only [putL, setL, evL, getL]
  refine HL_cons rfl ?_
  refine o_stvH (vs := [.slice A10 u9.length c10]) (us' := [.int .i64 p0_0, .slice A10 u9.length c10, .slice none 0 0, .int .i64 0]) hH 2 rfl rfl rfl rfl rfl tI22 rfl (List.cons_ne_nil _ _) rfl rfl rfl ?_
  intro s11 hH'
  replace hH : Hp sb s F0 s11 [Ck.ov b2 [.int .i64 p0_0, .slice A0_1p p0_1.length c0_1p, .slice A0_2p p0_2.length c0_2p, .int .i64 p0_3] 29, Ck.ov b3 [.int .i64 0, .slice none 0 0, .slice none 0 0, .int .i64 0] 31, Ck.ov b5 [.int .i64 p0_0, .slice A10 u9.length c10, .slice none 0 0, .int .i64 0] 31, Ck.ol OI 3 A10 c10 u9] := hH'
  clear hH'
  try dsimp only [putL, setL, evL, getL]
  refine HL_nil ?_
  refine hK8 _ _ ?_
  refine HT_seq_k ?_
  intro K12 hK12
  refine HT_region ?_
  refine HL_cons rfl ?_
  refine o_faddr' (ft := 22) (off := 2) rfl Try.underlying29 rfl tI22 (by decide) ?_
  try dsimp only [putL, setL, evL, getL]
  refine HL_cons rfl ?_
  refine o_load' rfl Try.underlying22 rfl (hH.hasv 0 rfl rfl) ?_
  try dsimp only [putL, setL, evL, getL]
  obtain ⟨u13, hu13, H⟩ := headE H
  refine HL_cons rfl ?_
  refine o_call (args := #[.slice A0_2p p0_2.length c0_2p]) Try.func16 rfl rfl rfl (laws_toIntS.ok sb s11 no A0_2p c0_2p p0_2 HRp0_2 (Hp.own hH.bs) _ hu13) ?_
  rintro _ s13 ⟨A14, c14, rfl, hD⟩
  replace hH := hH.back0 hD (Up.refl _ _ _)
  clear hD
  dsimp only [addC, setC, rmC, selC, getC] at hH
  try dsimp only [putL, setL, evL, getL]
  refine HL_cons rfl ?_
  refine o_faddr' (ft := 22) (off := 2) rfl Try.underlying31 rfl tI22 (by decide) ?_
  try dsimp only [putL, setL, evL, getL]
  refine HL_cons rfl ?_
  refine o_stvH (vs := [.slice A14 u13.length c14]) (us' := [.int .i64 p0_0, .slice A10 u9.length c10, .slice A14 u13.length c14, .int .i64 0]) hH 2 rfl rfl rfl rfl rfl tI22 rfl (List.cons_ne_nil _ _) rfl rfl rfl ?_
  intro s15 hH'
  replace hH : Hp sb s F0 s15 [Ck.ov b2 [.int .i64 p0_0, .slice A0_1p p0_1.length c0_1p, .slice A0_2p p0_2.length c0_2p, .int .i64 p0_3] 29, Ck.ov b3 [.int .i64 0, .slice none 0 0, .slice none 0 0, .int .i64 0] 31, Ck.ov b5 [.int .i64 p0_0, .slice A10 u9.length c10, .slice A14 u13.length c14, .int .i64 0] 31, Ck.ol OI 3 A10 c10 u9, Ck.ol OI 3 A14 c14 u13] := hH'
  clear hH'
  try dsimp only [putL, setL, evL, getL]
  refine HL_nil ?_
  refine hK12 _ _ ?_
  refine HT_seq_k ?_
  intro K16 hK16
  refine HT_region ?_
  refine HL_cons rfl ?_
  refine o_faddr' (ft := 3) (off := 3) rfl Try.underlying29 rfl tI3 (by decide) ?_
  try dsimp only [putL, setL, evL, getL]
  refine HL_cons rfl ?_
  refine o_load' rfl Try.underlying3 rfl (hH.hasv 0 rfl rfl) ?_
  try dsimp only [putL, setL, evL, getL]
  refine HL_cons rfl ?_
  refine o_faddr' (ft := 3) (off := 3) rfl Try.underlying31 rfl tI3 (by decide) ?_
  try dsimp only [putL, setL, evL, getL]
  refine HL_cons rfl ?_
  refine o_stvH (vs := [.int .i64 p0_3]) (us' := [.int .i64 p0_0, .slice A10 u9.length c10, .slice A14 u13.length c14, .int .i64 p0_3]) hH 2 rfl rfl rfl rfl rfl tI3 rfl (List.cons_ne_nil _ _) rfl rfl rfl ?_
  intro s17 hH'
  replace hH : Hp sb s F0 s17 [Ck.ov b2 [.int .i64 p0_0, .slice A0_1p p0_1.length c0_1p, .slice A0_2p p0_2.length c0_2p, .int .i64 p0_3] 29, Ck.ov b3 [.int .i64 0, .slice none 0 0, .slice none 0 0, .int .i64 0] 31, Ck.ov b5 [.int .i64 p0_0, .slice A10 u9.length c10, .slice A14 u13.length c14, .int .i64 p0_3] 31, Ck.ol OI 3 A10 c10 u9, Ck.ol OI 3 A14 c14 u13] := hH'
  clear hH'
  try dsimp only [putL, setL, evL, getL]
  refine HL_nil ?_
  refine hK16 _ _ ?_
  refine HT_seq_k ?_
  intro K18 hK18
  refine HT_region ?_
  refine HL_cons rfl ?_
  refine o_loads' [.int .i64 p0_0, .slice A10 u9.length c10, .slice A14 u13.length c14, .int .i64 p0_3] rfl Try.underlying31 rfl tI31 rfl (hH.partv 2 rfl (0) [.int .i64 p0_0, .slice A10 u9.length c10, .slice A14 u13.length c14, .int .i64 p0_3] rfl) ?_
  try dsimp only [putL, setL, evL, getL]
  refine HL_cons rfl ?_
  refine o_stvH (vs := [.int .i64 p0_0, .slice A10 u9.length c10, .slice A14 u13.length c14, .int .i64 p0_3]) (us' := [.int .i64 p0_0, .slice A10 u9.length c10, .slice A14 u13.length c14, .int .i64 p0_3]) hH 1 rfl rfl rfl rfl rfl tI31 rfl (List.cons_ne_nil _ _) rfl rfl rfl ?_
  intro s19 hH'
  replace hH : Hp sb s F0 s19 [Ck.ov b2 [.int .i64 p0_0, .slice A0_1p p0_1.length c0_1p, .slice A0_2p p0_2.length c0_2p, .int .i64 p0_3] 29, Ck.ov b3 [.int .i64 p0_0, .slice A10 u9.length c10, .slice A14 u13.length c14, .int .i64 p0_3] 31, Ck.ov b5 [.int .i64 p0_0, .slice A10 u9.length c10, .slice A14 u13.length c14, .int .i64 p0_3] 31, Ck.ol OI 3 A10 c10 u9, Ck.ol OI 3 A14 c14 u13] := hH'
  clear hH'
  try dsimp only [putL, setL, evL, getL]
  refine HL_nil ?_
  refine hK18 _ _ ?_
  refine HT_ret ?_
  obtain rfl := Option.some.inj (show some _ = some r from H)
  exact hQr _ _ [.agg #[.int .i64 p0_0, .slice A10 u9.length c10, .slice A14 u13.length c14, .int .i64 p0_3]] ⟨ResV.cells rfl Try.underlying31 rfl tI31 (hH.var 1 rfl) rfl, trivial⟩ ⟨A10, c10, A14, c14, rfl, hH.sel [3, 4] (by decide)⟩
def spec_l1In.f (p0 : Int) (p1 : Int) (p2 : Int) : Option Bool := if (decide (p0 ≥ p1)) = true then (some (decide (p0 ≤ p2))) else (some false)
def spec_l1In.post (sb s : St) (F0 : Fp) (r : Bool) : Value → St → Prop := fun v s' => v = .bool r ∧ Hp sb s F0 s' []
set_option maxRecDepth 100000 in
set_option maxHeartbeats 4000000 in
theorem spec_l1In.ok (sb s : St) (F0 : Fp) (p0 : Int) (p1 : Int) (p2 : Int) (hH : Hp sb s F0 s []) (r : Bool) (H : spec_l1In.f p0 p1 p2 = some r) : GCall Try.prog 84 #[.int .i64 p0, .int .i64 p1, .int .i64 p2] s (spec_l1In.post sb s F0 r) := by
  refine GCall_ofk [.tmp 6] [.int .i64 p0, .int .i64 p1, .int .i64 p2, undef, undef, undef, undef, undef, undef, undef, undef, undef, undef, undef, undef] Try.func84 rfl rfl rfl ?_
  intro w Q hQr hQn hQp
  replace H := topE H
  unfold spec_l1In.f at H
  refine HT_seq_k ?_
  intro K1 hK1
  refine HT_region ?_
  refine HL_cons rfl ?_
  refine o_assign ?_
  try dsimp only [putL, setL, evL, getL]
  refine HL_nil ?_
  refine hK1 _ _ ?_
  refine HT_seq_k ?_
  intro K2 hK2
  refine HT_region ?_
  refine HL_cons rfl ?_
  refine o_move ?_
  try dsimp only [putL, setL, evL, getL]
  refine HL_cons rfl ?_
  refine o_move ?_
  try dsimp only [putL, setL, evL, getL]
  refine HL_cons rfl ?_
  refine o_bin rfl rfl rfl ?_
  try dsimp only [putL, setL, evL, getL]
  refine HL_cons rfl ?_
  refine o_move ?_
  try dsimp only [putL, setL, evL, getL]
  rcases Bool.eq_false_or_eq_true (decide (p0 ≥ p1)) with hb3 | hb3
  · replace H := iteT hb3 H
    refine HL_want ?_ ?_
    · exact wantT (j := 3) (b := true) (t := 10) (c := decide (p0 ≥ p1)) rfl rfl rfl rfl hb3
    refine o_move ?_
    try dsimp only [putL, setL, evL, getL]
    refine HL_want ?_ ?_
    · exact wantT (j := 3) (b := true) (t := 10) (c := decide (p0 ≥ p1)) rfl rfl rfl rfl hb3
    refine o_move ?_
    try dsimp only [putL, setL, evL, getL]
    refine HL_want ?_ ?_
    · exact wantT (j := 3) (b := true) (t := 10) (c := decide (p0 ≥ p1)) rfl rfl rfl rfl hb3
    refine o_bin rfl rfl rfl ?_
    try dsimp only [putL, setL, evL, getL]
    refine HL_cons rfl ?_
    refine o_pickT rfl hb3 ?_
    try dsimp only [putL, setL, evL, getL]
    refine HL_cons rfl ?_
    refine o_assign ?_
    try dsimp only [putL, setL, evL, getL]
    refine HL_nil ?_
    refine hK2 _ _ ?_
    refine HT_ret ?_
    obtain rfl := Option.some.inj (show some _ = some r from H)
    exact hQr _ _ [.bool (decide (p0 ≤ p2))] ⟨rfl, trivial⟩ ⟨rfl, hH⟩
  · replace H := iteF hb3 H
    refine HL_skip ?_ ?_
    · exact wantF (j := 3) (b := true) (t := 10) (c := decide (p0 ≥ p1)) rfl rfl rfl rfl hb3
    try dsimp only [putL, setL, evL, getL]
    refine HL_skip ?_ ?_
    · exact wantF (j := 3) (b := true) (t := 10) (c := decide (p0 ≥ p1)) rfl rfl rfl rfl hb3
    try dsimp only [putL, setL, evL, getL]
    refine HL_skip ?_ ?_
    · exact wantF (j := 3) (b := true) (t := 10) (c := decide (p0 ≥ p1)) rfl rfl rfl rfl hb3
    try dsimp only [putL, setL, evL, getL]
    refine HL_cons rfl ?_
    refine o_pickF rfl hb3 ?_
    try dsimp only [putL, setL, evL, getL]
    refine HL_cons rfl ?_
    refine o_assign ?_
    try dsimp only [putL, setL, evL, getL]
    refine HL_nil ?_
    refine hK2 _ _ ?_
    refine HT_ret ?_
    obtain rfl := Option.some.inj (show some _ = some r from H)
    exact hQr _ _ [.bool false] ⟨rfl, trivial⟩ ⟨rfl, hH⟩
def spec_GoodRune.f (p0 : Int) : Option Bool := (spec_l1In.f p0 0 1114111).bind fun u3 => if u3 = true then ((spec_l1In.f p0 55296 57343).bind fun u5 => some (!u5)) else (some false)
def spec_GoodRune.post (sb s : St) (F0 : Fp) (r : Bool) : Value → St → Prop := fun v s' => v = .bool r ∧ Hp sb s F0 s' []
set_option maxRecDepth 100000 in
set_option maxHeartbeats 4000000 in
theorem spec_GoodRune.ok (sb s : St) (F0 : Fp) (p0 : Int) (hH : Hp sb s F0 s []) (r : Bool) (H : spec_GoodRune.f p0 = some r) : GCall Try.prog 135 #[.int .i64 p0] s (spec_GoodRune.post sb s F0 r) := by
  refine GCall_ofk [.tmp 2] [.int .i64 p0, undef, undef, undef, undef, undef, undef, undef, undef, undef] Try.func135 rfl rfl rfl ?_
  intro w Q hQr hQn hQp
  replace H := topE H
  unfold spec_GoodRune.f at H
  refine HT_seq_k ?_
  intro K1 hK1
  refine HT_region ?_
  refine HL_cons rfl ?_
  refine o_assign ?_
  try dsimp only [putL, setL, evL, getL]
  refine HL_nil ?_
  refine hK1 _ _ ?_
  refine HT_seq_k ?_
  intro K2 hK2
  refine HT_region ?_
  refine HL_cons rfl ?_
  refine o_move ?_
  try dsimp only [putL, setL, evL, getL]
  obtain ⟨u3, hu3, H⟩ := headE H
  refine HL_cons rfl ?_
  refine o_call (args := #[.int .i64 p0, .int .i64 0, .int .i64 1114111]) Try.func84 rfl rfl rfl (spec_l1In.ok sb s no p0 0 1114111 (Hp.own hH.bs) _ hu3) ?_
  rintro _ s3 ⟨rfl, hD⟩
  replace hH := hH.back0 hD (Up.refl _ _ _)
  clear hD
  dsimp only [addC, setC, rmC, selC, getC] at hH
  try dsimp only [putL, setL, evL, getL]
  refine HL_cons rfl ?_
  refine o_move ?_
  try dsimp only [putL, setL, evL, getL]
  rcases Bool.eq_false_or_eq_true u3 with hb4 | hb4
  · replace H := iteT hb4 H
    refine HL_want ?_ ?_
    · exact wantT (j := 2) (b := true) (t := 5) (c := u3) rfl rfl rfl rfl hb4
    refine o_move ?_
    try dsimp only [putL, setL, evL, getL]
    obtain ⟨u5, hu5, H⟩ := headE H
    refine HL_want ?_ ?_
    · exact wantT (j := 2) (b := true) (t := 5) (c := u3) rfl rfl rfl rfl hb4
    refine o_call (args := #[.int .i64 p0, .int .i64 55296, .int .i64 57343]) Try.func84 rfl rfl rfl (spec_l1In.ok sb s3 no p0 55296 57343 (Hp.own hH.bs) _ hu5) ?_
    rintro _ s5 ⟨rfl, hD⟩
    replace hH := hH.back0 hD (Up.refl _ _ _)
    clear hD
    dsimp only [addC, setC, rmC, selC, getC] at hH
    try dsimp only [putL, setL, evL, getL]
    refine HL_want ?_ ?_
    · exact wantT (j := 2) (b := true) (t := 5) (c := u3) rfl rfl rfl rfl hb4
    refine o_not rfl ?_
    try dsimp only [putL, setL, evL, getL]
    refine HL_cons rfl ?_
    refine o_pickT rfl hb4 ?_
    try dsimp only [putL, setL, evL, getL]
    refine HL_cons rfl ?_
    refine o_assign ?_
    try dsimp only [putL, setL, evL, getL]
    refine HL_nil ?_
    refine hK2 _ _ ?_
    refine HT_ret ?_
    obtain rfl := Option.some.inj (show some _ = some r from H)
    exact hQr _ _ [.bool (!u5)] ⟨rfl, trivial⟩ ⟨rfl, hH⟩
  · replace H := iteF hb4 H
    refine HL_skip ?_ ?_
    · exact wantF (j := 2) (b := true) (t := 5) (c := u3) rfl rfl rfl rfl hb4
    try dsimp only [putL, setL, evL, getL]
    refine HL_skip ?_ ?_
    · exact wantF (j := 2) (b := true) (t := 5) (c := u3) rfl rfl rfl rfl hb4
    try dsimp only [putL, setL, evL, getL]
    refine HL_skip ?_ ?_
    · exact wantF (j := 2) (b := true) (t := 5) (c := u3) rfl rfl rfl rfl hb4
    try dsimp only [putL, setL, evL, getL]
    refine HL_cons rfl ?_
    refine o_pickF rfl hb4 ?_
    try dsimp only [putL, setL, evL, getL]
    refine HL_cons rfl ?_
    refine o_assign ?_
    try dsimp only [putL, setL, evL, getL]
    refine HL_nil ?_
    refine hK2 _ _ ?_
    refine HT_ret ?_
    obtain rfl := Option.some.inj (show some _ = some r from H)
    exact hQr _ _ [.bool false] ⟨rfl, trivial⟩ ⟨rfl, hH⟩
def spec_l1AllRunes.l1 (p0 : List (Int)) : Nat → Int → Option (Lo Unit Bool)
  | 0, _ => none
  | kf + 1, x48 => if (decide (x48 < (p0.length : Int))) = true then ((rd? p0 x48).bind fun u66 => (spec_GoodRune.f u66).bind fun u68 => if (!u68) = true then ((some false).bind fun z => some (Lo.ret z)) else (spec_l1AllRunes.l1 p0 kf (IntKind.i64.wrap (x48 + 1)))) else (some (Lo.go ()))
def spec_l1AllRunes.f (p0 : List (Int)) : Option Bool := (spec_l1AllRunes.l1 p0 ((((p0.length : Int)) - (0)).toNat + 2) 0).bind fun (o : Lo Unit Bool) => match o with | .go () => (some (decide ((p0.length : Int) ≤ 1000))) | .ret z => some z
def spec_l1AllRunes.post (sb s : St) (F0 : Fp) (r : Bool) : Value → St → Prop := fun v s' => v = .bool r ∧ Hp sb s F0 s' []
set_option maxRecDepth 100000 in
set_option maxHeartbeats 4000000 in
theorem spec_l1AllRunes.ok (sb s : St) (F0 : Fp) (A0p : Option Addr) (c0p : Nat) (p0 : List (Int)) (HRp0 : Rd KI sb A0p c0p p0) (hH : Hp sb s F0 s []) (r : Bool) (H : spec_l1AllRunes.f p0 = some r) : GCall Try.prog 107 #[.slice A0p p0.length c0p] s (spec_l1AllRunes.post sb s F0 r) := by
  refine GCall_ofk [.tmp 2] [.slice A0p p0.length c0p, undef, undef, undef, undef, undef, undef, undef, undef, undef, undef, undef, undef, undef, undef, undef, undef, undef] Try.func107 rfl rfl rfl ?_
  intro w Q hQr hQn hQp
  replace H := topE H
  unfold spec_l1AllRunes.f at H
  refine HT_seq_k ?_
  intro K1 hK1
  refine HT_region ?_
  refine HL_cons rfl ?_
  refine o_assign ?_
  try dsimp only [putL, setL, evL, getL]
  refine HL_nil ?_
  refine hK1 _ _ ?_
  refine HT_seq_k ?_
  intro K2 hK2
  refine HT_seq_k ?_
  intro K3 hK3
  refine HT_region ?_
  refine HL_cons rfl ?_
  refine o_move ?_
  try dsimp only [putL, setL, evL, getL]
  refine HL_cons rfl ?_
  refine o_len rfl Try.underlying22 ?_
  try dsimp only [putL, setL, evL, getL]
  refine HL_cons rfl ?_
  refine o_move ?_
  try dsimp only [putL, setL, evL, getL]
  refine HL_nil ?_
  refine hK3 _ _ ?_
  refine joinH H fun G4 hG4 H => ?_
  refine HT_toK (fun l' s' => G4 (.go ()) = some r ∧ l' = [.slice A0p p0.length c0p, undef, getL l' 2, undef, getL l' 4, .slice A0p p0.length c0p, .int .i64 (p0.length : Int), getL l' 7, getL l' 8, getL l' 9, getL l' 10, getL l' 11, getL l' 12, getL l' 13, getL l' 14, undef, undef, undef] ∧ Hp sb s F0 s' []) ?_ ?_
  · intro K4 hK4
    refine HT_block ?_
    refine HT_loopK (fun kf l' s' => ∃ (x48 : Int), (spec_l1AllRunes.l1 p0 kf x48).bind G4 = some r ∧ l' = [.slice A0p p0.length c0p, undef, getL l' 2, undef, getL l' 4, .slice A0p p0.length c0p, .int .i64 (p0.length : Int), .int .i64 x48, getL l' 8, getL l' 9, getL l' 10, getL l' 11, getL l' 12, getL l' 13, getL l' 14, undef, undef, undef] ∧ Hp sb s F0 s' []) ((((p0.length : Int)) - (0)).toNat + 2) ⟨0, H, rfl, hH⟩ ?_
    rintro kf l' s60 ⟨x48, H, hl, hH⟩ K60 hK60
    generalize getL l' 2 = j2, getL l' 4 = j4, getL l' 8 = j8, getL l' 9 = j9, getL l' 10 = j10, getL l' 11 = j11, getL l' 12 = j12, getL l' 13 = j13, getL l' 14 = j14 at hl
    subst hl
    cases kf with
    | zero => simp [spec_l1AllRunes.l1] at H
    | succ kf =>
      rw [spec_l1AllRunes.l1] at H
      refine HT_seq_k ?_
      intro K61 hK61
      refine HT_region ?_
      refine HL_cons rfl ?_
      refine o_bin rfl rfl rfl ?_
      try dsimp only [putL, setL, evL, getL]
      refine HL_nil ?_
      refine hK61 _ _ ?_
      refine HT_seq_k ?_
      intro K62 hK62
      rcases Bool.eq_false_or_eq_true (decide (x48 < (p0.length : Int))) with hb63 | hb63
      · replace H := iteT hb63 H
        refine HT_true (congrArg Value.bool hb63) ?_
        refine HT_skip ?_
        refine hK62 _ _ ?_
        refine HT_seq_k ?_
        intro K64 hK64
        refine HT_block ?_
        refine HT_seq_k ?_
        intro K65 hK65
        refine HT_region ?_
        obtain ⟨u66, hu66, H⟩ := headE H
        obtain ⟨b66, o66, cs66, hr66, hh66, hel66⟩ := Rd.elb HRp0 hu66
        obtain rfl := hr66
        refine HL_cons rfl ?_
        refine hel66 s60 rfl rfl Try.underlying22 tI3 ?_
        try dsimp only [putL, setL, evL, getL]
        refine HL_cons rfl ?_
        refine o_load' rfl Try.underlying3 rfl ((hh66 hH.bs.mono) 0 _ rfl) ?_
        try dsimp only [putL, setL, evL, getL]
        refine HL_cons rfl ?_
        refine o_assign ?_
        try dsimp only [putL, setL, evL, getL]
        refine HL_nil ?_
        refine hK65 _ _ ?_
        refine HT_seq_k ?_
        intro K67 hK67
        refine HT_region ?_
        refine HL_cons rfl ?_
        refine o_move ?_
        try dsimp only [putL, setL, evL, getL]
        obtain ⟨u68, hu68, H⟩ := headE H
        refine HL_cons rfl ?_
        refine o_call (args := #[.int .i64 u66]) Try.func135 rfl rfl rfl (spec_GoodRune.ok sb s60 no u66 (Hp.own hH.bs) _ hu68) ?_
        rintro _ s68 ⟨rfl, hD⟩
        replace hH := hH.back0 hD (Up.refl _ _ _)
        clear hD
        dsimp only [addC, setC, rmC, selC, getC] at hH
        try dsimp only [putL, setL, evL, getL]
        refine HL_cons rfl ?_
        refine o_not rfl ?_
        try dsimp only [putL, setL, evL, getL]
        refine HL_nil ?_
        refine hK67 _ _ ?_
        rcases Bool.eq_false_or_eq_true (!u68) with hb69 | hb69
        · replace H := iteT hb69 H
          refine HT_true (congrArg Value.bool hb69) ?_
          refine HT_seq_k ?_
          intro K70 hK70
          refine HT_region ?_
          refine HL_cons rfl ?_
          refine o_assign ?_
          try dsimp only [putL, setL, evL, getL]
          refine HL_nil ?_
          refine hK70 _ _ ?_
          refine HT_ret ?_
          replace H := escH (fun z hz => hG4 _ hz) H
          obtain rfl := Option.some.inj (show some _ = some r from H)
          exact hQr _ _ [.bool false] ⟨rfl, trivial⟩ ⟨rfl, hH⟩
        · replace H := iteF hb69 H
          refine HT_false (congrArg Value.bool hb69) ?_
          refine HT_skip ?_
          refine hK64 _ _ ?_
          refine HT_region ?_
          refine HL_cons rfl ?_
          refine o_bin rfl rfl rfl ?_
          try dsimp only [putL, setL, evL, getL]
          refine HL_cons rfl ?_
          refine o_move ?_
          try dsimp only [putL, setL, evL, getL]
          refine HL_nil ?_
          exact hK60 _ _ ⟨kf, Nat.lt_succ_self kf, IntKind.i64.wrap (x48 + 1), H, rfl, hH⟩
      · replace H := iteF hb63 H
        refine HT_false (congrArg Value.bool hb63) ?_
        refine HT_exit ?_
        exact hK4 _ _ ⟨H, rfl, hH⟩
  · rintro l' s71 ⟨H, hl, hH⟩
    generalize getL l' 2 = j2, getL l' 4 = j4, getL l' 7 = j7, getL l' 8 = j8, getL l' 9 = j9, getL l' 10 = j10, getL l' 11 = j11, getL l' 12 = j12, getL l' 13 = j13, getL l' 14 = j14 at hl
    subst hl
    replace H := hG4 _ H
    try dsimp only at H
    refine hK2 _ _ ?_
    refine HT_seq_k ?_
    intro K72 hK72
    refine HT_region ?_
    refine HL_cons rfl ?_
    refine o_move ?_
    try dsimp only [putL, setL, evL, getL]
    refine HL_cons rfl ?_
    refine o_len rfl Try.underlying22 ?_
    try dsimp only [putL, setL, evL, getL]
    refine HL_cons rfl ?_
    refine o_bin rfl rfl rfl ?_
    try dsimp only [putL, setL, evL, getL]
    refine HL_cons rfl ?_
    refine o_assign ?_
    try dsimp only [putL, setL, evL, getL]
    refine HL_nil ?_
    refine hK72 _ _ ?_
    refine HT_ret ?_
    obtain rfl := Option.some.inj (show some _ = some r from H)
    exact hQr _ _ [.bool (decide ((p0.length : Int) ≤ 1000))] ⟨rfl, trivial⟩ ⟨rfl, hH⟩
def spec_l1All.l1 (p0 : List (Int)) (p1 : Int) (p2 : Int) : Nat → Int → Option (Lo Unit Bool)
  | 0, _ => none
  | kf + 1, x48 => if (decide (x48 < (p0.length : Int))) = true then ((rd? p0 x48).bind fun u66 => (spec_l1In.f u66 p1 p2).bind fun u68 => if (!u68) = true then ((some false).bind fun z => some (Lo.ret z)) else (spec_l1All.l1 p0 p1 p2 kf (IntKind.i64.wrap (x48 + 1)))) else (some (Lo.go ()))
def spec_l1All.f (p0 : List (Int)) (p1 : Int) (p2 : Int) : Option Bool := (spec_l1All.l1 p0 p1 p2 ((((p0.length : Int)) - (0)).toNat + 2) 0).bind fun (o : Lo Unit Bool) => match o with | .go () => (some true) | .ret z => some z
def spec_l1All.post (sb s : St) (F0 : Fp) (r : Bool) : Value → St → Prop := fun v s' => v = .bool r ∧ Hp sb s F0 s' []
set_option maxRecDepth 100000 in
set_option maxHeartbeats 4000000 in
theorem spec_l1All.ok (sb s : St) (F0 : Fp) (A0p : Option Addr) (c0p : Nat) (p0 : List (Int)) (p1 : Int) (p2 : Int) (HRp0 : Rd KI sb A0p c0p p0) (hH : Hp sb s F0 s []) (r : Bool) (H : spec_l1All.f p0 p1 p2 = some r) : GCall Try.prog 108 #[.slice A0p p0.length c0p, .int .i64 p1, .int .i64 p2] s (spec_l1All.post sb s F0 r) := by
  refine GCall_ofk [.tmp 6] [.slice A0p p0.length c0p, .int .i64 p1, .int .i64 p2, undef, undef, undef, undef, undef, undef, undef, undef, undef, undef, undef, undef, undef, undef, undef, undef, undef, undef] Try.func108 rfl rfl rfl ?_
  intro w Q hQr hQn hQp
  replace H := topE H
  unfold spec_l1All.f at H
  refine HT_seq_k ?_
  intro K1 hK1
  refine HT_region ?_
  refine HL_cons rfl ?_
  refine o_assign ?_
  try dsimp only [putL, setL, evL, getL]
  refine HL_nil ?_
  refine hK1 _ _ ?_
  refine HT_seq_k ?_
  intro K2 hK2
  refine HT_seq_k ?_
  intro K3 hK3
  refine HT_region ?_
  refine HL_cons rfl ?_
  refine o_move ?_
  try dsimp only [putL, setL, evL, getL]
  refine HL_cons rfl ?_
  refine o_len rfl Try.underlying22 ?_
  try dsimp only [putL, setL, evL, getL]
  refine HL_cons rfl ?_
  refine o_move ?_
  try dsimp only [putL, setL, evL, getL]
  refine HL_nil ?_
  refine hK3 _ _ ?_
  refine joinH H fun G4 hG4 H => ?_
  refine HT_toK (fun l' s' => G4 (.go ()) = some r ∧ l' = [.slice A0p p0.length c0p, .int .i64 p1, .int .i64 p2, undef, undef, undef, getL l' 6, undef, getL l' 8, .slice A0p p0.length c0p, .int .i64 (p0.length : Int), getL l' 11, getL l' 12, getL l' 13, getL l' 14, getL l' 15, getL l' 16, getL l' 17, getL l' 18, getL l' 19, getL l' 20] ∧ Hp sb s F0 s' []) ?_ ?_
  · intro K4 hK4
    refine HT_block ?_
    refine HT_loopK (fun kf l' s' => ∃ (x48 : Int), (spec_l1All.l1 p0 p1 p2 kf x48).bind G4 = some r ∧ l' = [.slice A0p p0.length c0p, .int .i64 p1, .int .i64 p2, undef, undef, undef, getL l' 6, undef, getL l' 8, .slice A0p p0.length c0p, .int .i64 (p0.length : Int), .int .i64 x48, getL l' 12, getL l' 13, getL l' 14, getL l' 15, getL l' 16, getL l' 17, getL l' 18, getL l' 19, getL l' 20] ∧ Hp sb s F0 s' []) ((((p0.length : Int)) - (0)).toNat + 2) ⟨0, H, rfl, hH⟩ ?_
    rintro kf l' s60 ⟨x48, H, hl, hH⟩ K60 hK60
    generalize getL l' 6 = j6, getL l' 8 = j8, getL l' 12 = j12, getL l' 13 = j13, getL l' 14 = j14, getL l' 15 = j15, getL l' 16 = j16, getL l' 17 = j17, getL l' 18 = j18, getL l' 19 = j19, getL l' 20 = j20 at hl
    subst hl
    cases kf with
    | zero => simp [spec_l1All.l1] at H
    | succ kf =>
      rw [spec_l1All.l1] at H
      refine HT_seq_k ?_
      intro K61 hK61
      refine HT_region ?_
      refine HL_cons rfl ?_
      refine o_bin rfl rfl rfl ?_
      try dsimp only [putL, setL, evL, getL]
      refine HL_nil ?_
      refine hK61 _ _ ?_
      refine HT_seq_k ?_
      intro K62 hK62
      rcases Bool.eq_false_or_eq_true (decide (x48 < (p0.length : Int))) with hb63 | hb63
      · replace H := iteT hb63 H
        refine HT_true (congrArg Value.bool hb63) ?_
        refine HT_skip ?_
        refine hK62 _ _ ?_
        refine HT_seq_k ?_
        intro K64 hK64
        refine HT_block ?_
        refine HT_seq_k ?_
        intro K65 hK65
        refine HT_region ?_
        obtain ⟨u66, hu66, H⟩ := headE H
        obtain ⟨b66, o66, cs66, hr66, hh66, hel66⟩ := Rd.elb HRp0 hu66
        obtain rfl := hr66
        refine HL_cons rfl ?_
        refine hel66 s60 rfl rfl Try.underlying22 tI3 ?_
        try dsimp only [putL, setL, evL, getL]
        refine HL_cons rfl ?_
        refine o_load' rfl Try.underlying3 rfl ((hh66 hH.bs.mono) 0 _ rfl) ?_
        try dsimp only [putL, setL, evL, getL]
        refine HL_cons rfl ?_
        refine o_assign ?_
        try dsimp only [putL, setL, evL, getL]
        refine HL_nil ?_
        refine hK65 _ _ ?_
        refine HT_seq_k ?_
        intro K67 hK67
        refine HT_region ?_
        refine HL_cons rfl ?_
        refine o_move ?_
        try dsimp only [putL, setL, evL, getL]
        refine HL_cons rfl ?_
        refine o_move ?_
        try dsimp only [putL, setL, evL, getL]
        refine HL_cons rfl ?_
        refine o_move ?_
        try dsimp only [putL, setL, evL, getL]
        obtain ⟨u68, hu68, H⟩ := headE H
        refine HL_cons rfl ?_
        refine o_call (args := #[.int .i64 u66, .int .i64 p1, .int .i64 p2]) Try.func84 rfl rfl rfl (spec_l1In.ok sb s60 no u66 p1 p2 (Hp.own hH.bs) _ hu68) ?_
        rintro _ s68 ⟨rfl, hD⟩
        replace hH := hH.back0 hD (Up.refl _ _ _)
        clear hD
        dsimp only [addC, setC, rmC, selC, getC] at hH
        try dsimp only [putL, setL, evL, getL]
        refine HL_cons rfl ?_
        refine o_not rfl ?_
        try dsimp only [putL, setL, evL, getL]
        refine HL_nil ?_
        refine hK67 _ _ ?_
        rcases Bool.eq_false_or_eq_true (!u68) with hb69 | hb69
        · replace H := iteT hb69 H
          refine HT_true (congrArg Value.bool hb69) ?_
          refine HT_seq_k ?_
          intro K70 hK70
          refine HT_region ?_
          refine HL_cons rfl ?_
          refine o_assign ?_
          try dsimp only [putL, setL, evL, getL]
          refine HL_nil ?_
          refine hK70 _ _ ?_
          refine HT_ret ?_
          replace H := escH (fun z hz => hG4 _ hz) H
          obtain rfl := Option.some.inj (show some _ = some r from H)
          exact hQr _ _ [.bool false] ⟨rfl, trivial⟩ ⟨rfl, hH⟩
        · replace H := iteF hb69 H
          refine HT_false (congrArg Value.bool hb69) ?_
          refine HT_skip ?_
          refine hK64 _ _ ?_
          refine HT_region ?_
          refine HL_cons rfl ?_
          refine o_bin rfl rfl rfl ?_
          try dsimp only [putL, setL, evL, getL]
          refine HL_cons rfl ?_
          refine o_move ?_
          try dsimp only [putL, setL, evL, getL]
          refine HL_nil ?_
          exact hK60 _ _ ⟨kf, Nat.lt_succ_self kf, IntKind.i64.wrap (x48 + 1), H, rfl, hH⟩
      · replace H := iteF hb63 H
        refine HT_false (congrArg Value.bool hb63) ?_
        refine HT_exit ?_
        exact hK4 _ _ ⟨H, rfl, hH⟩
  · rintro l' s71 ⟨H, hl, hH⟩
    generalize getL l' 6 = j6, getL l' 8 = j8, getL l' 11 = j11, getL l' 12 = j12, getL l' 13 = j13, getL l' 14 = j14, getL l' 15 = j15, getL l' 16 = j16, getL l' 17 = j17, getL l' 18 = j18, getL l' 19 = j19, getL l' 20 = j20 at hl
    subst hl
    replace H := hG4 _ H
    try dsimp only at H
    refine hK2 _ _ ?_
    refine HT_seq_k ?_
    intro K72 hK72
    refine HT_region ?_
    refine HL_cons rfl ?_
    refine o_assign ?_
    try dsimp only [putL, setL, evL, getL]
    refine HL_nil ?_
    refine hK72 _ _ ?_
    refine HT_ret ?_
    obtain rfl := Option.some.inj (show some _ = some r from H)
    exact hQr _ _ [.bool true] ⟨rfl, trivial⟩ ⟨rfl, hH⟩
def spec_GoodBuf.f (p0_0 : Int) (p0_1 : List (Int)) (p0_2 : List (Int)) (p0_3 : Int) : Option Bool := (spec_l1In.f p0_0 1 60).bind fun u4 => if u4 = true then (if (decide ((p0_1.length : Int) ≤ p0_0)) = true then ((spec_l1AllRunes.f p0_1).bind fun u7 => if u7 = true then (if ((p0_2.length : Int) == (p0_1.length : Int)) = true then ((spec_l1All.f p0_2 1 1000).bind fun u10 => if u10 = true then ((spec_l1In.f p0_3 0 1000000).bind fun u12 => some u12) else (some false)) else (some false)) else (some false)) else (some false)) else (some false)
def spec_GoodBuf.post (sb s : St) (F0 : Fp) (r : Bool) : Value → St → Prop := fun v s' => v = .bool r ∧ Hp sb s F0 s' []
set_option maxRecDepth 100000 in
set_option maxHeartbeats 4000000 in
theorem spec_GoodBuf.ok (sb s : St) (F0 : Fp) (p0_0 : Int) (A0_1p : Option Addr) (c0_1p : Nat) (p0_1 : List (Int)) (A0_2p : Option Addr) (c0_2p : Nat) (p0_2 : List (Int)) (p0_3 : Int) (HRp0_1 : Rd KI sb A0_1p c0_1p p0_1) (HRp0_2 : Rd KI sb A0_2p c0_2p p0_2) (hH : Hp sb s F0 s []) (r : Bool) (H : spec_GoodBuf.f p0_0 p0_1 p0_2 p0_3 = some r) : GCall Try.prog 68 #[.agg #[.int .i64 p0_0, .slice A0_1p p0_1.length c0_1p, .slice A0_2p p0_2.length c0_2p, .int .i64 p0_3]] s (spec_GoodBuf.post sb s F0 r) := by
  refine GCall_ofk [.tmp 2] [.agg #[.int .i64 p0_0, .slice A0_1p p0_1.length c0_1p, .slice A0_2p p0_2.length c0_2p, .int .i64 p0_3], undef, undef, undef, undef, undef, undef, undef, undef, undef, undef, undef, undef, undef, undef, undef, undef, undef, undef, undef, undef, undef, undef, undef, undef, undef, undef, undef, undef, undef, undef, undef, undef, undef, undef, undef, undef, undef] Try.func68 rfl rfl rfl ?_
  intro w Q hQr hQn hQp
  replace H := topE H
  unfold spec_GoodBuf.f at H
  refine HT_seq_k ?_
  intro K1 hK1
  refine HT_region ?_
  refine HL_cons rfl ?_
  refine o_boxH hH rfl ?_
  intro b2 s2 hH' hG
  replace hH : Hp sb s F0 s2 [Ck.ov b2 [.int .i64 p0_0, .slice A0_1p p0_1.length c0_1p, .slice A0_2p p0_2.length c0_2p, .int .i64 p0_3] 31] := hH'
  clear hH' hG
  try dsimp only [putL, setL, evL, getL]
  refine HL_cons rfl ?_
  refine o_assign ?_
  try dsimp only [putL, setL, evL, getL]
  refine HL_nil ?_
  refine hK1 _ _ ?_
  refine HT_seq_k ?_
  intro K3 hK3
  refine HT_region ?_
  refine HL_cons rfl ?_
  refine o_faddr' (ft := 3) (off := 0) rfl Try.underlying31 rfl tI3 (by decide) ?_
  try dsimp only [putL, setL, evL, getL]
  refine HL_cons rfl ?_
  refine o_load' rfl Try.underlying3 rfl (hH.hasv 0 rfl rfl) ?_
  try dsimp only [putL, setL, evL, getL]
  obtain ⟨u4, hu4, H⟩ := headE H
  refine HL_cons rfl ?_
  refine o_call (args := #[.int .i64 p0_0, .int .i64 1, .int .i64 60]) Try.func84 rfl rfl rfl (spec_l1In.ok sb s2 no p0_0 1 60 (Hp.own hH.bs) _ hu4) ?_
  rintro _ s4 ⟨rfl, hD⟩
  replace hH := hH.back0 hD (Up.refl _ _ _)
  clear hD
  dsimp only [addC, setC, rmC, selC, getC] at hH
  try dsimp only [putL, setL, evL, getL]
  refine HL_cons rfl ?_
  refine o_move ?_
  try dsimp only [putL, setL, evL, getL]
  rcases Bool.eq_false_or_eq_true u4 with hb5 | hb5
  · replace H := iteT hb5 H
    refine HL_want ?_ ?_
    · exact wantT (j := 3) (b := true) (t := 6) (c := u4) rfl rfl rfl rfl hb5
    refine o_faddr' (ft := 22) (off := 1) rfl Try.underlying31 rfl tI22 (by decide) ?_
    try dsimp only [putL, setL, evL, getL]
    refine HL_want ?_ ?_
    · exact wantT (j := 3) (b := true) (t := 6) (c := u4) rfl rfl rfl rfl hb5
    refine o_load' rfl Try.underlying22 rfl (hH.hasv 0 rfl rfl) ?_
    try dsimp only [putL, setL, evL, getL]
    refine HL_want ?_ ?_
    · exact wantT (j := 3) (b := true) (t := 6) (c := u4) rfl rfl rfl rfl hb5
    refine o_len rfl Try.underlying22 ?_
    try dsimp only [putL, setL, evL, getL]
    refine HL_want ?_ ?_
    · exact wantT (j := 3) (b := true) (t := 6) (c := u4) rfl rfl rfl rfl hb5
    refine o_faddr' (ft := 3) (off := 0) rfl Try.underlying31 rfl tI3 (by decide) ?_
    try dsimp only [putL, setL, evL, getL]
    refine HL_want ?_ ?_
    · exact wantT (j := 3) (b := true) (t := 6) (c := u4) rfl rfl rfl rfl hb5
    refine o_load' rfl Try.underlying3 rfl (hH.hasv 0 rfl rfl) ?_
    try dsimp only [putL, setL, evL, getL]
    refine HL_want ?_ ?_
    · exact wantT (j := 3) (b := true) (t := 6) (c := u4) rfl rfl rfl rfl hb5
    refine o_bin rfl rfl rfl ?_
    try dsimp only [putL, setL, evL, getL]
    refine HL_cons rfl ?_
    refine o_pickT rfl hb5 ?_
    try dsimp only [putL, setL, evL, getL]
    refine HL_cons rfl ?_
    refine o_move ?_
    try dsimp only [putL, setL, evL, getL]
    rcases Bool.eq_false_or_eq_true (decide ((p0_1.length : Int) ≤ p0_0)) with hb6 | hb6
    · replace H := iteT hb6 H
      refine HL_want ?_ ?_
      · exact wantT (j := 11) (b := true) (t := 14) (c := decide ((p0_1.length : Int) ≤ p0_0)) rfl rfl rfl rfl hb6
      refine o_faddr' (ft := 22) (off := 1) rfl Try.underlying31 rfl tI22 (by decide) ?_
      try dsimp only [putL, setL, evL, getL]
      refine HL_want ?_ ?_
      · exact wantT (j := 11) (b := true) (t := 14) (c := decide ((p0_1.length : Int) ≤ p0_0)) rfl rfl rfl rfl hb6
      refine o_load' rfl Try.underlying22 rfl (hH.hasv 0 rfl rfl) ?_
      try dsimp only [putL, setL, evL, getL]
      obtain ⟨u7, hu7, H⟩ := headE H
      refine HL_want ?_ ?_
      · exact wantT (j := 11) (b := true) (t := 14) (c := decide ((p0_1.length : Int) ≤ p0_0)) rfl rfl rfl rfl hb6
      refine o_call (args := #[.slice A0_1p p0_1.length c0_1p]) Try.func107 rfl rfl rfl (spec_l1AllRunes.ok sb s4 no A0_1p c0_1p p0_1 HRp0_1 (Hp.own hH.bs) _ hu7) ?_
      rintro _ s7 ⟨rfl, hD⟩
      replace hH := hH.back0 hD (Up.refl _ _ _)
      clear hD
      dsimp only [addC, setC, rmC, selC, getC] at hH
      try dsimp only [putL, setL, evL, getL]
      refine HL_cons rfl ?_
      refine o_pickT rfl hb6 ?_
      try dsimp only [putL, setL, evL, getL]
      refine HL_cons rfl ?_
      refine o_move ?_
      try dsimp only [putL, setL, evL, getL]
      rcases Bool.eq_false_or_eq_true u7 with hb8 | hb8
      · replace H := iteT hb8 H
        refine HL_want ?_ ?_
        · exact wantT (j := 16) (b := true) (t := 19) (c := u7) rfl rfl rfl rfl hb8
        refine o_faddr' (ft := 22) (off := 2) rfl Try.underlying31 rfl tI22 (by decide) ?_
        try dsimp only [putL, setL, evL, getL]
        refine HL_want ?_ ?_
        · exact wantT (j := 16) (b := true) (t := 19) (c := u7) rfl rfl rfl rfl hb8
        refine o_load' rfl Try.underlying22 rfl (hH.hasv 0 rfl rfl) ?_
        try dsimp only [putL, setL, evL, getL]
        refine HL_want ?_ ?_
        · exact wantT (j := 16) (b := true) (t := 19) (c := u7) rfl rfl rfl rfl hb8
        refine o_len rfl Try.underlying22 ?_
        try dsimp only [putL, setL, evL, getL]
        refine HL_want ?_ ?_
        · exact wantT (j := 16) (b := true) (t := 19) (c := u7) rfl rfl rfl rfl hb8
        refine o_faddr' (ft := 22) (off := 1) rfl Try.underlying31 rfl tI22 (by decide) ?_
        try dsimp only [putL, setL, evL, getL]
        refine HL_want ?_ ?_
        · exact wantT (j := 16) (b := true) (t := 19) (c := u7) rfl rfl rfl rfl hb8
        refine o_load' rfl Try.underlying22 rfl (hH.hasv 0 rfl rfl) ?_
        try dsimp only [putL, setL, evL, getL]
        refine HL_want ?_ ?_
        · exact wantT (j := 16) (b := true) (t := 19) (c := u7) rfl rfl rfl rfl hb8
        refine o_len rfl Try.underlying22 ?_
        try dsimp only [putL, setL, evL, getL]
        refine HL_want ?_ ?_
        · exact wantT (j := 16) (b := true) (t := 19) (c := u7) rfl rfl rfl rfl hb8
        refine o_bin rfl rfl rfl ?_
        try dsimp only [putL, setL, evL, getL]
        refine HL_cons rfl ?_
        refine o_pickT rfl hb8 ?_
        try dsimp only [putL, setL, evL, getL]
        refine HL_cons rfl ?_
        refine o_move ?_
        try dsimp only [putL, setL, evL, getL]
        rcases Bool.eq_false_or_eq_true ((p0_2.length : Int) == (p0_1.length : Int)) with hb9 | hb9
        · replace H := iteT hb9 H
          refine HL_want ?_ ?_
          · exact wantT (j := 25) (b := true) (t := 28) (c := (p0_2.length : Int) == (p0_1.length : Int)) rfl rfl rfl rfl hb9
          refine o_faddr' (ft := 22) (off := 2) rfl Try.underlying31 rfl tI22 (by decide) ?_
          try dsimp only [putL, setL, evL, getL]
          refine HL_want ?_ ?_
          · exact wantT (j := 25) (b := true) (t := 28) (c := (p0_2.length : Int) == (p0_1.length : Int)) rfl rfl rfl rfl hb9
          refine o_load' rfl Try.underlying22 rfl (hH.hasv 0 rfl rfl) ?_
          try dsimp only [putL, setL, evL, getL]
          obtain ⟨u10, hu10, H⟩ := headE H
          refine HL_want ?_ ?_
          · exact wantT (j := 25) (b := true) (t := 28) (c := (p0_2.length : Int) == (p0_1.length : Int)) rfl rfl rfl rfl hb9
          refine o_call (args := #[.slice A0_2p p0_2.length c0_2p, .int .i64 1, .int .i64 1000]) Try.func108 rfl rfl rfl (spec_l1All.ok sb s7 no A0_2p c0_2p p0_2 1 1000 HRp0_2 (Hp.own hH.bs) _ hu10) ?_
          rintro _ s10 ⟨rfl, hD⟩
          replace hH := hH.back0 hD (Up.refl _ _ _)
          clear hD
          dsimp only [addC, setC, rmC, selC, getC] at hH
          try dsimp only [putL, setL, evL, getL]
          refine HL_cons rfl ?_
          refine o_pickT rfl hb9 ?_
          try dsimp only [putL, setL, evL, getL]
          refine HL_cons rfl ?_
          refine o_move ?_
          try dsimp only [putL, setL, evL, getL]
          rcases Bool.eq_false_or_eq_true u10 with hb11 | hb11
          · replace H := iteT hb11 H
            refine HL_want ?_ ?_
            · exact wantT (j := 30) (b := true) (t := 33) (c := u10) rfl rfl rfl rfl hb11
            refine o_faddr' (ft := 3) (off := 3) rfl Try.underlying31 rfl tI3 (by decide) ?_
            try dsimp only [putL, setL, evL, getL]
            refine HL_want ?_ ?_
            · exact wantT (j := 30) (b := true) (t := 33) (c := u10) rfl rfl rfl rfl hb11
            refine o_load' rfl Try.underlying3 rfl (hH.hasv 0 rfl rfl) ?_
            try dsimp only [putL, setL, evL, getL]
            obtain ⟨u12, hu12, H⟩ := headE H
            refine HL_want ?_ ?_
            · exact wantT (j := 30) (b := true) (t := 33) (c := u10) rfl rfl rfl rfl hb11
            refine o_call (args := #[.int .i64 p0_3, .int .i64 0, .int .i64 1000000]) Try.func84 rfl rfl rfl (spec_l1In.ok sb s10 no p0_3 0 1000000 (Hp.own hH.bs) _ hu12) ?_
            rintro _ s12 ⟨rfl, hD⟩
            replace hH := hH.back0 hD (Up.refl _ _ _)
            clear hD
            dsimp only [addC, setC, rmC, selC, getC] at hH
            try dsimp only [putL, setL, evL, getL]
            refine HL_cons rfl ?_
            refine o_pickT rfl hb11 ?_
            try dsimp only [putL, setL, evL, getL]
            refine HL_cons rfl ?_
            refine o_assign ?_
            try dsimp only [putL, setL, evL, getL]
            refine HL_nil ?_
            refine hK3 _ _ ?_
            refine HT_ret ?_
            obtain rfl := Option.some.inj (show some _ = some r from H)
            exact hQr _ _ [.bool u12] ⟨rfl, trivial⟩ ⟨rfl, hH.sel [] (by decide)⟩
          · replace H := iteF hb11 H
            refine HL_skip ?_ ?_
            · exact wantF (j := 30) (b := true) (t := 33) (c := u10) rfl rfl rfl rfl hb11
            try dsimp only [putL, setL, evL, getL]
            refine HL_skip ?_ ?_
            · exact wantF (j := 30) (b := true) (t := 33) (c := u10) rfl rfl rfl rfl hb11
            try dsimp only [putL, setL, evL, getL]
            refine HL_skip ?_ ?_
            · exact wantF (j := 30) (b := true) (t := 33) (c := u10) rfl rfl rfl rfl hb11
            try dsimp only [putL, setL, evL, getL]
            refine HL_cons rfl ?_
            refine o_pickF rfl hb11 ?_
            try dsimp only [putL, setL, evL, getL]
            refine HL_cons rfl ?_
            refine o_assign ?_
            try dsimp only [putL, setL, evL, getL]
            refine HL_nil ?_
            refine hK3 _ _ ?_
            refine HT_ret ?_
            obtain rfl := Option.some.inj (show some _ = some r from H)
            exact hQr _ _ [.bool false] ⟨rfl, trivial⟩ ⟨rfl, hH.sel [] (by decide)⟩
        · replace H := iteF hb9 H
          refine HL_skip ?_ ?_
          · exact wantF (j := 25) (b := true) (t := 28) (c := (p0_2.length : Int) == (p0_1.length : Int)) rfl rfl rfl rfl hb9
          try dsimp only [putL, setL, evL, getL]
          refine HL_skip ?_ ?_
          · exact wantF (j := 25) (b := true) (t := 28) (c := (p0_2.length : Int) == (p0_1.length : Int)) rfl rfl rfl rfl hb9
          try dsimp only [putL, setL, evL, getL]
          refine HL_skip ?_ ?_
          · exact wantF (j := 25) (b := true) (t := 28) (c := (p0_2.length : Int) == (p0_1.length : Int)) rfl rfl rfl rfl hb9
          try dsimp only [putL, setL, evL, getL]
          refine HL_cons rfl ?_
          refine o_pickF rfl hb9 ?_
          try dsimp only [putL, setL, evL, getL]
          refine HL_cons rfl ?_
          refine o_move ?_
          try dsimp only [putL, setL, evL, getL]
          refine HL_skip ?_ ?_
          · exact wantF (j := 30) (b := true) (t := 33) (c := false) rfl rfl rfl rfl rfl
          try dsimp only [putL, setL, evL, getL]
          refine HL_skip ?_ ?_
          · exact wantF (j := 30) (b := true) (t := 33) (c := false) rfl rfl rfl rfl rfl
          try dsimp only [putL, setL, evL, getL]
          refine HL_skip ?_ ?_
          · exact wantF (j := 30) (b := true) (t := 33) (c := false) rfl rfl rfl rfl rfl
          try dsimp only [putL, setL, evL, getL]
          refine HL_cons rfl ?_
          refine o_pickF rfl rfl ?_
          try dsimp only [putL, setL, evL, getL]
          refine HL_cons rfl ?_
          refine o_assign ?_
          try dsimp only [putL, setL, evL, getL]
          refine HL_nil ?_
          refine hK3 _ _ ?_
          refine HT_ret ?_
          obtain rfl := Option.some.inj (show some _ = some r from H)
          exact hQr _ _ [.bool false] ⟨rfl, trivial⟩ ⟨rfl, hH.sel [] (by decide)⟩
      · replace H := iteF hb8 H
        refine HL_skip ?_ ?_
        · exact wantF (j := 16) (b := true) (t := 19) (c := u7) rfl rfl rfl rfl hb8
        try dsimp only [putL, setL, evL, getL]
        refine HL_skip ?_ ?_
        · exact wantF (j := 16) (b := true) (t := 19) (c := u7) rfl rfl rfl rfl hb8
        try dsimp only [putL, setL, evL, getL]
        refine HL_skip ?_ ?_
        · exact wantF (j := 16) (b := true) (t := 19) (c := u7) rfl rfl rfl rfl hb8
        try dsimp only [putL, setL, evL, getL]
        refine HL_skip ?_ ?_
        · exact wantF (j := 16) (b := true) (t := 19) (c := u7) rfl rfl rfl rfl hb8
        try dsimp only [putL, setL, evL, getL]
        refine HL_skip ?_ ?_
        · exact wantF (j := 16) (b := true) (t := 19) (c := u7) rfl rfl rfl rfl hb8
        try dsimp only [putL, setL, evL, getL]
        refine HL_skip ?_ ?_
        · exact wantF (j := 16) (b := true) (t := 19) (c := u7) rfl rfl rfl rfl hb8
        try dsimp only [putL, setL, evL, getL]
        refine HL_skip ?_ ?_
        · exact wantF (j := 16) (b := true) (t := 19) (c := u7) rfl rfl rfl rfl hb8
        try dsimp only [putL, setL, evL, getL]
        refine HL_cons rfl ?_
        refine o_pickF rfl hb8 ?_
        try dsimp only [putL, setL, evL, getL]
        refine HL_cons rfl ?_
        refine o_move ?_
        try dsimp only [putL, setL, evL, getL]
        refine HL_skip ?_ ?_
        · exact wantF (j := 25) (b := true) (t := 28) (c := false) rfl rfl rfl rfl rfl
        try dsimp only [putL, setL, evL, getL]
        refine HL_skip ?_ ?_
        · exact wantF (j := 25) (b := true) (t := 28) (c := false) rfl rfl rfl rfl rfl
        try dsimp only [putL, setL, evL, getL]
        refine HL_skip ?_ ?_
        · exact wantF (j := 25) (b := true) (t := 28) (c := false) rfl rfl rfl rfl rfl
        try dsimp only [putL, setL, evL, getL]
        refine HL_cons rfl ?_
        refine o_pickF rfl rfl ?_
        try dsimp only [putL, setL, evL, getL]
        refine HL_cons rfl ?_
        refine o_move ?_
        try dsimp only [putL, setL, evL, getL]
        refine HL_skip ?_ ?_
        · exact wantF (j := 30) (b := true) (t := 33) (c := false) rfl rfl rfl rfl rfl
        try dsimp only [putL, setL, evL, getL]
        refine HL_skip ?_ ?_
        · exact wantF (j := 30) (b := true) (t := 33) (c := false) rfl rfl rfl rfl rfl
        try dsimp only [putL, setL, evL, getL]
        refine HL_skip ?_ ?_
        · exact wantF (j := 30) (b := true) (t := 33) (c := false) rfl rfl rfl rfl rfl
        try dsimp only [putL, setL, evL, getL]
        refine HL_cons rfl ?_
        refine o_pickF rfl rfl ?_
        try dsimp only [putL, setL, evL, getL]
        refine HL_cons rfl ?_
        refine o_assign ?_
        try dsimp only [putL, setL, evL, getL]
        refine HL_nil ?_
        refine hK3 _ _ ?_
        refine HT_ret ?_
        obtain rfl := Option.some.inj (show some _ = some r from H)
        exact hQr _ _ [.bool false] ⟨rfl, trivial⟩ ⟨rfl, hH.sel [] (by decide)⟩
    · replace H := iteF hb6 H
      refine HL_skip ?_ ?_
      · exact wantF (j := 11) (b := true) (t := 14) (c := decide ((p0_1.length : Int) ≤ p0_0)) rfl rfl rfl rfl hb6
      try dsimp only [putL, setL, evL, getL]
      refine HL_skip ?_ ?_
      · exact wantF (j := 11) (b := true) (t := 14) (c := decide ((p0_1.length : Int) ≤ p0_0)) rfl rfl rfl rfl hb6
      try dsimp only [putL, setL, evL, getL]
      refine HL_skip ?_ ?_
      · exact wantF (j := 11) (b := true) (t := 14) (c := decide ((p0_1.length : Int) ≤ p0_0)) rfl rfl rfl rfl hb6
      try dsimp only [putL, setL, evL, getL]
      refine HL_cons rfl ?_
      refine o_pickF rfl hb6 ?_
      try dsimp only [putL, setL, evL, getL]
      refine HL_cons rfl ?_
      refine o_move ?_
      try dsimp only [putL, setL, evL, getL]
      refine HL_skip ?_ ?_
      · exact wantF (j := 16) (b := true) (t := 19) (c := false) rfl rfl rfl rfl rfl
      try dsimp only [putL, setL, evL, getL]
      refine HL_skip ?_ ?_
      · exact wantF (j := 16) (b := true) (t := 19) (c := false) rfl rfl rfl rfl rfl
      try dsimp only [putL, setL, evL, getL]
      refine HL_skip ?_ ?_
      · exact wantF (j := 16) (b := true) (t := 19) (c := false) rfl rfl rfl rfl rfl
      try dsimp only [putL, setL, evL, getL]
      refine HL_skip ?_ ?_
      · exact wantF (j := 16) (b := true) (t := 19) (c := false) rfl rfl rfl rfl rfl
      try dsimp only [putL, setL, evL, getL]
      refine HL_skip ?_ ?_
      · exact wantF (j := 16) (b := true) (t := 19) (c := false) rfl rfl rfl rfl rfl
      try dsimp only [putL, setL, evL, getL]
      refine HL_skip ?_ ?_
      · exact wantF (j := 16) (b := true) (t := 19) (c := false) rfl rfl rfl rfl rfl
      try dsimp only [putL, setL, evL, getL]
      refine HL_skip ?_ ?_
      · exact wantF (j := 16) (b := true) (t := 19) (c := false) rfl rfl rfl rfl rfl
      try dsimp only [putL, setL, evL, getL]
      refine HL_cons rfl ?_
      refine o_pickF rfl rfl ?_
      try dsimp only [putL, setL, evL, getL]
      refine HL_cons rfl ?_
      refine o_move ?_
      try dsimp only [putL, setL, evL, getL]
      refine HL_skip ?_ ?_
      · exact wantF (j := 25) (b := true) (t := 28) (c := false) rfl rfl rfl rfl rfl
      try dsimp only [putL, setL, evL, getL]
      refine HL_skip ?_ ?_
      · exact wantF (j := 25) (b := true) (t := 28) (c := false) rfl rfl rfl rfl rfl
      try dsimp only [putL, setL, evL, getL]
      refine HL_skip ?_ ?_
      · exact wantF (j := 25) (b := true) (t := 28) (c := false) rfl rfl rfl rfl rfl
      try dsimp only [putL, setL, evL, getL]
      refine HL_cons rfl ?_
      refine o_pickF rfl rfl ?_
      try dsimp only [putL, setL, evL, getL]
      refine HL_cons rfl ?_
      refine o_move ?_
      try dsimp only [putL, setL, evL, getL]
      refine HL_skip ?_ ?_
      · exact wantF (j := 30) (b := true) (t := 33) (c := false) rfl rfl rfl rfl rfl
      try dsimp only [putL, setL, evL, getL]
      refine HL_skip ?_ ?_
      · exact wantF (j := 30) (b := true) (t := 33) (c := false) rfl rfl rfl rfl rfl
      try dsimp only [putL, setL, evL, getL]
      refine HL_skip ?_ ?_
      · exact wantF (j := 30) (b := true) (t := 33) (c := false) rfl rfl rfl rfl rfl
      try dsimp only [putL, setL, evL, getL]
      refine HL_cons rfl ?_
      refine o_pickF rfl rfl ?_
      try dsimp only [putL, setL, evL, getL]
      refine HL_cons rfl ?_
      refine o_assign ?_
      try dsimp only [putL, setL, evL, getL]
      refine HL_nil ?_
      refine hK3 _ _ ?_
      refine HT_ret ?_
      obtain rfl := Option.some.inj (show some _ = some r from H)
      exact hQr _ _ [.bool false] ⟨rfl, trivial⟩ ⟨rfl, hH.sel [] (by decide)⟩
  · replace H := iteF hb5 H
    refine HL_skip ?_ ?_
    · exact wantF (j := 3) (b := true) (t := 6) (c := u4) rfl rfl rfl rfl hb5
    try dsimp only [putL, setL, evL, getL]
    refine HL_skip ?_ ?_
    · exact wantF (j := 3) (b := true) (t := 6) (c := u4) rfl rfl rfl rfl hb5
    try dsimp only [putL, setL, evL, getL]
    refine HL_skip ?_ ?_
    · exact wantF (j := 3) (b := true) (t := 6) (c := u4) rfl rfl rfl rfl hb5
    try dsimp only [putL, setL, evL, getL]
    refine HL_skip ?_ ?_
    · exact wantF (j := 3) (b := true) (t := 6) (c := u4) rfl rfl rfl rfl hb5
    try dsimp only [putL, setL, evL, getL]
    refine HL_skip ?_ ?_
    · exact wantF (j := 3) (b := true) (t := 6) (c := u4) rfl rfl rfl rfl hb5
    try dsimp only [putL, setL, evL, getL]
    refine HL_skip ?_ ?_
    · exact wantF (j := 3) (b := true) (t := 6) (c := u4) rfl rfl rfl rfl hb5
    try dsimp only [putL, setL, evL, getL]
    refine HL_cons rfl ?_
    refine o_pickF rfl hb5 ?_
    try dsimp only [putL, setL, evL, getL]
    refine HL_cons rfl ?_
    refine o_move ?_
    try dsimp only [putL, setL, evL, getL]
    refine HL_skip ?_ ?_
    · exact wantF (j := 11) (b := true) (t := 14) (c := false) rfl rfl rfl rfl rfl
    try dsimp only [putL, setL, evL, getL]
    refine HL_skip ?_ ?_
    · exact wantF (j := 11) (b := true) (t := 14) (c := false) rfl rfl rfl rfl rfl
    try dsimp only [putL, setL, evL, getL]
    refine HL_skip ?_ ?_
    · exact wantF (j := 11) (b := true) (t := 14) (c := false) rfl rfl rfl rfl rfl
    try dsimp only [putL, setL, evL, getL]
    refine HL_cons rfl ?_
    refine o_pickF rfl rfl ?_
    try dsimp only [putL, setL, evL, getL]
    refine HL_cons rfl ?_
    refine o_move ?_
    try dsimp only [putL, setL, evL, getL]
    refine HL_skip ?_ ?_
    · exact wantF (j := 16) (b := true) (t := 19) (c := false) rfl rfl rfl rfl rfl
    try dsimp only [putL, setL, evL, getL]
    refine HL_skip ?_ ?_
    · exact wantF (j := 16) (b := true) (t := 19) (c := false) rfl rfl rfl rfl rfl
    try dsimp only [putL, setL, evL, getL]
    refine HL_skip ?_ ?_
    · exact wantF (j := 16) (b := true) (t := 19) (c := false) rfl rfl rfl rfl rfl
    try dsimp only [putL, setL, evL, getL]
    refine HL_skip ?_ ?_
    · exact wantF (j := 16) (b := true) (t := 19) (c := false) rfl rfl rfl rfl rfl
    try dsimp only [putL, setL, evL, getL]
    refine HL_skip ?_ ?_
    · exact wantF (j := 16) (b := true) (t := 19) (c := false) rfl rfl rfl rfl rfl
    try dsimp only [putL, setL, evL, getL]
    refine HL_skip ?_ ?_
    · exact wantF (j := 16) (b := true) (t := 19) (c := false) rfl rfl rfl rfl rfl
    try dsimp only [putL, setL, evL, getL]
    refine HL_skip ?_ ?_
    · exact wantF (j := 16) (b := true) (t := 19) (c := false) rfl rfl rfl rfl rfl
    try dsimp only [putL, setL, evL, getL]
    refine HL_cons rfl ?_
    refine o_pickF rfl rfl ?_
    try dsimp only [putL, setL, evL, getL]
    refine HL_cons rfl ?_
    refine o_move ?_
    try dsimp only [putL, setL, evL, getL]
    refine HL_skip ?_ ?_
    · exact wantF (j := 25) (b := true) (t := 28) (c := false) rfl rfl rfl rfl rfl
    try dsimp only [putL, setL, evL, getL]
    refine HL_skip ?_ ?_
    · exact wantF (j := 25) (b := true) (t := 28) (c := false) rfl rfl rfl rfl rfl
    try dsimp only [putL, setL, evL, getL]
    refine HL_skip ?_ ?_
    · exact wantF (j := 25) (b := true) (t := 28) (c := false) rfl rfl rfl rfl rfl
    try dsimp only [putL, setL, evL, getL]
    refine HL_cons rfl ?_
    refine o_pickF rfl rfl ?_
    try dsimp only [putL, setL, evL, getL]
    refine HL_cons rfl ?_
    refine o_move ?_
    try dsimp only [putL, setL, evL, getL]
    refine HL_skip ?_ ?_
    · exact wantF (j := 30) (b := true) (t := 33) (c := false) rfl rfl rfl rfl rfl
    try dsimp only [putL, setL, evL, getL]
    refine HL_skip ?_ ?_
    · exact wantF (j := 30) (b := true) (t := 33) (c := false) rfl rfl rfl rfl rfl
    try dsimp only [putL, setL, evL, getL]
    refine HL_skip ?_ ?_
    · exact wantF (j := 30) (b := true) (t := 33) (c := false) rfl rfl rfl rfl rfl
    try dsimp only [putL, setL, evL, getL]
    refine HL_cons rfl ?_
    refine o_pickF rfl rfl ?_
    try dsimp only [putL, setL, evL, getL]
    refine HL_cons rfl ?_
    refine o_assign ?_
    try dsimp only [putL, setL, evL, getL]
    refine HL_nil ?_
    refine hK3 _ _ ?_
    refine HT_ret ?_
    obtain rfl := Option.some.inj (show some _ = some r from H)
    exact hQr _ _ [.bool false] ⟨rfl, trivial⟩ ⟨rfl, hH.sel [] (by decide)⟩
def spec_l1Own.f (p0 : List (Int)) : Option (List (Int)) := (app? 17592186044416 ([] : List (Int)) p0).bind fun x4 => some x4
def spec_l1Own.post (sb s : St) (F0 : Fp) (r : (List (Int))) : Value → St → Prop := fun v s' => ∃ (A0 : Option Addr) (c0 : Nat), v = .slice A0 r.length c0 ∧ Hp sb s F0 s' [Ck.ol OI 3 A0 c0 r]
set_option maxRecDepth 100000 in
set_option maxHeartbeats 4000000 in
theorem spec_l1Own.ok (sb s : St) (F0 : Fp) (A0p : Option Addr) (c0p : Nat) (p0 : List (Int)) (HRp0 : Rd KI sb A0p c0p p0) (hH : Hp sb s F0 s []) (r : (List (Int))) (H : spec_l1Own.f p0 = some r) : GCall Try.prog 91 #[.slice A0p p0.length c0p] s (spec_l1Own.post sb s F0 r) := by
  refine GCall_ofk [.tmp 2] [.slice A0p p0.length c0p, undef, undef, undef, undef, undef] Try.func91 rfl rfl rfl ?_
  intro w Q hQr hQn hQp
  replace H := topE H
  unfold spec_l1Own.f at H
  refine HT_seq_k ?_
  intro K1 hK1
  refine HT_region ?_
  refine HL_cons rfl ?_
  refine o_assign ?_
  try dsimp only [putL, setL, evL, getL]
  refine HL_nil ?_
  refine hK1 _ _ ?_
  refine HT_seq_k ?_
  intro K2 hK2
  refine HT_region ?_
  refine HL_cons rfl ?_
  refine o_lit0H (α := Int) (K := KI) (O := OI) hH Try.underlying22 tI3 ?_
  intro A3 s3 hH' hG
  replace hH : Hp sb s F0 s3 [Ck.ol OI 3 A3 0 ([] : List (Int))] := hH'
  clear hH' hG
  try dsimp only [putL, setL, evL, getL]
  refine HL_cons rfl ?_
  refine o_move ?_
  try dsimp only [putL, setL, evL, getL]
  obtain ⟨x4, hx4, H⟩ := headE H
  refine HL_cons rfl ?_
  refine o_appF (K := KI) (n := 17592186044416) (A := A3) (c := 0) (xs := ([] : List (Int))) (ys := p0) (B := A0p) (c2 := c0p) hH 0 rfl rfl rfl rfl Try.underlying22 tI3 rfl (by decide) (by decide) (by decide) (Src.flat (HRp0.mono hH.bs.mono)) hx4 ?_
  intro A4 c4 s4 hH'
  replace hH : Hp sb s F0 s4 [Ck.ol OI 3 A4 c4 x4] := hH'
  clear hH'
  try dsimp only [putL, setL, evL, getL]
  refine HL_cons rfl ?_
  refine o_assign ?_
  try dsimp only [putL, setL, evL, getL]
  refine HL_nil ?_
  refine hK2 _ _ ?_
  refine HT_ret ?_
  obtain rfl := Option.some.inj (show some _ = some r from H)
  exact hQr _ _ [.slice A4 x4.length c4] ⟨rfl, trivial⟩ ⟨A4, c4, rfl, hH⟩
def spec_l1Most.f (p0 : Int) (p1 : Int) : Option Int := if (decide (p0 > p1)) = true then (some p0) else (some p1)
def spec_l1Most.post (sb s : St) (F0 : Fp) (r : Int) : Value → St → Prop := fun v s' => v = .int .i64 r ∧ Hp sb s F0 s' []
set_option maxRecDepth 100000 in
set_option maxHeartbeats 4000000 in
theorem spec_l1Most.ok (sb s : St) (F0 : Fp) (p0 : Int) (p1 : Int) (hH : Hp sb s F0 s []) (r : Int) (H : spec_l1Most.f p0 p1 = some r) : GCall Try.prog 150 #[.int .i64 p0, .int .i64 p1] s (spec_l1Most.post sb s F0 r) := by
  refine GCall_ofk [.tmp 4] [.int .i64 p0, .int .i64 p1, undef, undef, undef, undef, undef, undef, undef, undef] Try.func150 rfl rfl rfl ?_
  intro w Q hQr hQn hQp
  replace H := topE H
  unfold spec_l1Most.f at H
  refine HT_seq_k ?_
  intro K1 hK1
  refine HT_region ?_
  refine HL_cons rfl ?_
  refine o_assign ?_
  try dsimp only [putL, setL, evL, getL]
  refine HL_nil ?_
  refine hK1 _ _ ?_
  refine HT_seq_k ?_
  intro K2 hK2
  refine HT_seq_k ?_
  intro K3 hK3
  refine HT_region ?_
  refine HL_cons rfl ?_
  refine o_move ?_
  try dsimp only [putL, setL, evL, getL]
  refine HL_cons rfl ?_
  refine o_move ?_
  try dsimp only [putL, setL, evL, getL]
  refine HL_cons rfl ?_
  refine o_bin rfl rfl rfl ?_
  try dsimp only [putL, setL, evL, getL]
  refine HL_nil ?_
  refine hK3 _ _ ?_
  rcases Bool.eq_false_or_eq_true (decide (p0 > p1)) with hb4 | hb4
  · replace H := iteT hb4 H
    refine HT_true (congrArg Value.bool hb4) ?_
    refine HT_seq_k ?_
    intro K5 hK5
    refine HT_region ?_
    refine HL_cons rfl ?_
    refine o_move ?_
    try dsimp only [putL, setL, evL, getL]
    refine HL_cons rfl ?_
    refine o_assign ?_
    try dsimp only [putL, setL, evL, getL]
    refine HL_nil ?_
    refine hK5 _ _ ?_
    refine HT_ret ?_
    obtain rfl := Option.some.inj (show some _ = some r from H)
    exact hQr _ _ [.int .i64 p0] ⟨rfl, trivial⟩ ⟨rfl, hH⟩
  · replace H := iteF hb4 H
    refine HT_false (congrArg Value.bool hb4) ?_
    refine HT_skip ?_
    refine hK2 _ _ ?_
    refine HT_seq_k ?_
    intro K6 hK6
    refine HT_region ?_
    refine HL_cons rfl ?_
    refine o_move ?_
    try dsimp only [putL, setL, evL, getL]
    refine HL_cons rfl ?_
    refine o_assign ?_
    try dsimp only [putL, setL, evL, getL]
    refine HL_nil ?_
    refine hK6 _ _ ?_
    refine HT_ret ?_
    obtain rfl := Option.some.inj (show some _ = some r from H)
    exact hQr _ _ [.int .i64 p1] ⟨rfl, trivial⟩ ⟨rfl, hH⟩
def spec_l10Drop.l1 (x49 : List (Int)) : Nat → Int → Int → Option Int
  | 0, _, _ => none
  | kf + 1, x85, x86 => if (decide (x85 < (x49.length : Int))) = true then ((rd? x49 x85).bind fun u102 => spec_l10Drop.l1 x49 kf (IntKind.i64.wrap (x85 + 1)) (IntKind.i64.wrap (x86 + u102))) else (some x86)
def spec_l10Drop.f (p0_0 : Int) (p0_1 : List (Int)) (p0_2 : List (Int)) (p0_3 : Int) (p1 : Int) : Option (Int × (List (Int)) × (List (Int)) × Int × (List (Int))) := ((cut? p0_1 p1 (p0_1.length : Int)).bind fun x28 => (cut? p0_2 p1 (p0_2.length : Int)).bind fun x29 => (spec_l1Own.f x28).bind fun u30 => (spec_l1Own.f x29).bind fun u32 => some (p0_0, u30, u32, p0_3)).bind fun (o : Int × (List (Int)) × (List (Int)) × Int) => match o with | (x24, x25, x26, x27) => ((cut? p0_2 0 p1).bind fun x49 => (spec_l10Drop.l1 x49 ((((x49.length : Int)) - (0)).toNat + 2) 0 x27).bind fun (o : Int) => match o with | x77 => ((cut? p0_1 0 p1).bind fun x106 => (spec_l1Own.f x106).bind fun u107 => some (x24, x25, x26, x77, u107)))
def spec_l10Drop.post (sb s : St) (F0 : Fp) (r : Int × (List (Int)) × (List (Int)) × Int × (List (Int))) : Value → St → Prop := fun v s' => ∃ (A1 : Option Addr) (c1 : Nat) (A2 : Option Addr) (c2 : Nat) (A4 : Option Addr) (c4 : Nat), v = .tuple #[.agg #[.int .i64 r.1, .slice A1 r.2.1.length c1, .slice A2 r.2.2.1.length c2, .int .i64 r.2.2.2.1], .slice A4 r.2.2.2.2.length c4] ∧ Hp sb s F0 s' [Ck.ol OI 3 A1 c1 r.2.1, Ck.ol OI 3 A2 c2 r.2.2.1, Ck.ol OI 3 A4 c4 r.2.2.2.2]
set_option maxRecDepth 100000 in
set_option maxHeartbeats 4000000 in
theorem spec_l10Drop.ok (sb s : St) (F0 : Fp) (p0_0 : Int) (A0_1p : Option Addr) (c0_1p : Nat) (p0_1 : List (Int)) (A0_2p : Option Addr) (c0_2p : Nat) (p0_2 : List (Int)) (p0_3 : Int) (p1 : Int) (HRp0_1 : Rd KI sb A0_1p c0_1p p0_1) (HRp0_2 : Rd KI sb A0_2p c0_2p p0_2) (hH : Hp sb s F0 s []) (r : Int × (List (Int)) × (List (Int)) × Int × (List (Int))) (H : spec_l10Drop.f p0_0 p0_1 p0_2 p0_3 p1 = some r) : GCall Try.prog 85 #[.agg #[.int .i64 p0_0, .slice A0_1p p0_1.length c0_1p, .slice A0_2p p0_2.length c0_2p, .int .i64 p0_3], .int .i64 p1] s (spec_l10Drop.post sb s F0 r) := by
  refine GCall_ofk [.cell 4 31, .tmp 5] [.agg #[.int .i64 p0_0, .slice A0_1p p0_1.length c0_1p, .slice A0_2p p0_2.length c0_2p, .int .i64 p0_3], .int .i64 p1, undef, undef, undef, undef, undef, undef, undef, undef, undef, undef, undef, undef, undef, undef, undef, undef, undef, undef, undef, undef, undef, undef, undef, undef, undef, undef, undef, undef, undef, undef, undef, undef, undef, undef, undef, undef, undef, undef, undef, undef, undef, undef, undef] Try.func85 rfl rfl rfl ?_
  intro w Q hQr hQn hQp
  replace H := topE H
  unfold spec_l10Drop.f at H
  refine HT_seq_k ?_
  intro K1 hK1
  refine HT_region ?_
  refine HL_cons rfl ?_
  refine o_boxH hH rfl ?_
  intro b2 s2 hH' hG
  replace hH : Hp sb s F0 s2 [Ck.ov b2 [.int .i64 p0_0, .slice A0_1p p0_1.length c0_1p, .slice A0_2p p0_2.length c0_2p, .int .i64 p0_3] 31] := hH'
  clear hH' hG
  try dsimp only [putL, setL, evL, getL]
  refine HL_cons rfl ?_
  refine o_allocH hH tI31 ?_
  intro b3 s3 hH' hG
  replace hH : Hp sb s F0 s3 [Ck.ov b2 [.int .i64 p0_0, .slice A0_1p p0_1.length c0_1p, .slice A0_2p p0_2.length c0_2p, .int .i64 p0_3] 31, Ck.ov b3 [.int .i64 0, .slice none 0 0, .slice none 0 0, .int .i64 0] 31] := hH'
  clear hH' hG
  try dsimp only [putL, setL, evL, getL]
  refine HL_cons rfl ?_
  refine o_assign ?_
  try dsimp only [putL, setL, evL, getL]
  refine HL_nil ?_
  refine hK1 _ _ ?_
  refine joinH H fun G4 hG4 H => ?_
  refine HT_joinK (fun l' s' => ∃ (b23 : Nat) (x24 : Int) (x25 : List (Int)) (A25 : Option Addr) (c25 : Nat) (x26 : List (Int)) (A26 : Option Addr) (c26 : Nat) (x27 : Int), G4 (x24, x25, x26, x27) = some r ∧ l' = [.agg #[.int .i64 p0_0, .slice A0_1p p0_1.length c0_1p, .slice A0_2p p0_2.length c0_2p, .int .i64 p0_3], .int .i64 p1, .pointer (some ⟨b2, 0, none⟩), undef, .pointer (some ⟨b3, 0, none⟩), .slice none 0 0, .pointer (some ⟨b23, 0, none⟩), undef, undef, getL l' 9, getL l' 10, getL l' 11, getL l' 12, getL l' 13, getL l' 14, getL l' 15, getL l' 16, getL l' 17, getL l' 18, getL l' 19, getL l' 20, getL l' 21, getL l' 22, getL l' 23, undef, undef, undef, undef, undef, undef, undef, undef, undef, undef, undef, undef, undef, undef, undef, undef, undef, undef, undef, undef, undef] ∧ Hp sb s F0 s' [Ck.ol OI 3 A25 c25 x25, Ck.ol OI 3 A26 c26 x26, Ck.ov b2 [.int .i64 p0_0, .slice A0_1p p0_1.length c0_1p, .slice A0_2p p0_2.length c0_2p, .int .i64 p0_3] 31, Ck.ov b3 [.int .i64 0, .slice none 0 0, .slice none 0 0, .int .i64 0] 31, Ck.ov b23 [.int .i64 x24, .slice A25 x25.length c25, .slice A26 x26.length c26, .int .i64 x27] 31]) ?_ ?_
  · intro K4 hK4
    refine HK_draw (fun s' => Gro s3 s') 16 hMix ?_
    have hR := Gro.refl s3
    have hH0 := hH
    refine HK_readP 0 (v := .pointer (some ⟨b2, 0 + 0, none⟩)) rfl (by kernel_rfl) (fun c l s h => hQp c l s h) rfl (fun s' K hK => ?_) rfl rfl (fun _ => hR) ?_
    · refine o_faddr' (ft := 3) (off := 0) rfl Try.underlying31 rfl tI3 (by decide) ?_
      exact hK
    try dsimp only [putL, setL, evL, getL]
    refine HK_read 1 (v := .int .i64 p0_0) rfl (by kernel_rfl) (fun c l s h => hQp c l s h) rfl (fun s' hR' K hK => ?_) rfl rfl hR ?_
    · refine o_load' rfl Try.underlying3 rfl (has_gro hR' (hH0.hasv 0 rfl rfl)) ?_
      exact hK
    try dsimp only [putL, setL, evL, getL]
    refine HK_readP 2 (v := .pointer (some ⟨b2, 0 + 1, none⟩)) rfl (by kernel_rfl) (fun c l s h => hQp c l s h) rfl (fun s' K hK => ?_) rfl rfl (fun _ => hR) ?_
    · refine o_faddr' (ft := 22) (off := 1) rfl Try.underlying31 rfl tI22 (by decide) ?_
      exact hK
    try dsimp only [putL, setL, evL, getL]
    refine HK_read 3 (v := .slice A0_1p p0_1.length c0_1p) rfl (by kernel_rfl) (fun c l s h => hQp c l s h) rfl (fun s' hR' K hK => ?_) rfl rfl hR ?_
    · refine o_load' rfl Try.underlying22 rfl (has_gro hR' (hH0.hasv 0 rfl rfl)) ?_
      exact hK
    try dsimp only [putL, setL, evL, getL]
    refine HK_readP 4 (v := .int .i64 p1) rfl (by kernel_rfl) (fun c l s h => hQp c l s h) rfl (fun s' K hK => ?_) rfl rfl (fun _ => hR) ?_
    · refine o_move ?_
      exact hK
    try dsimp only [putL, setL, evL, getL]
    obtain ⟨x28, hx28, H⟩ := headE H
    refine HK_readP 5 (v := .slice (cutA A0_1p c0_1p (Int.toNat p1) (Kd.sz KI)) x28.length (c0_1p - Int.toNat p1)) rfl (by kernel_rfl) (fun c l s h => hQp c l s h) rfl (fun s' K hK => ?_) rfl rfl (fun _ => hR) ?_
    · refine o_cutA (xs := p0_1) (kl := .i64) (kh := .i64) (L := p1) (H := (p0_1.length : Int)) rfl rfl rfl Try.underlying22 tI3 HRp0_1.1 hx28 ?_
      exact hK
    have D28 := HRp0_1.cut hx28
    try dsimp only [putL, setL, evL, getL]
    refine HK_readP 7 (v := .pointer (some ⟨b2, 0 + 2, none⟩)) rfl (by kernel_rfl) (fun c l s h => hQp c l s h) rfl (fun s' K hK => ?_) rfl rfl (fun _ => hR) ?_
    · refine o_faddr' (ft := 22) (off := 2) rfl Try.underlying31 rfl tI22 (by decide) ?_
      exact hK
    try dsimp only [putL, setL, evL, getL]
    refine HK_read 8 (v := .slice A0_2p p0_2.length c0_2p) rfl (by kernel_rfl) (fun c l s h => hQp c l s h) rfl (fun s' hR' K hK => ?_) rfl rfl hR ?_
    · refine o_load' rfl Try.underlying22 rfl (has_gro hR' (hH0.hasv 0 rfl rfl)) ?_
      exact hK
    try dsimp only [putL, setL, evL, getL]
    refine HK_readP 9 (v := .int .i64 p1) rfl (by kernel_rfl) (fun c l s h => hQp c l s h) rfl (fun s' K hK => ?_) rfl rfl (fun _ => hR) ?_
    · refine o_move ?_
      exact hK
    try dsimp only [putL, setL, evL, getL]
    obtain ⟨x29, hx29, H⟩ := headE H
    refine HK_readP 10 (v := .slice (cutA A0_2p c0_2p (Int.toNat p1) (Kd.sz KI)) x29.length (c0_2p - Int.toNat p1)) rfl (by kernel_rfl) (fun c l s h => hQp c l s h) rfl (fun s' K hK => ?_) rfl rfl (fun _ => hR) ?_
    · refine o_cutA (xs := p0_2) (kl := .i64) (kh := .i64) (L := p1) (H := (p0_2.length : Int)) rfl rfl rfl Try.underlying22 tI3 HRp0_2.1 hx29 ?_
      exact hK
    have D29 := HRp0_2.cut hx29
    try dsimp only [putL, setL, evL, getL]
    refine HK_readP 12 (v := .pointer (some ⟨b2, 0 + 3, none⟩)) rfl (by kernel_rfl) (fun c l s h => hQp c l s h) rfl (fun s' K hK => ?_) rfl rfl (fun _ => hR) ?_
    · refine o_faddr' (ft := 3) (off := 3) rfl Try.underlying31 rfl tI3 (by decide) ?_
      exact hK
    try dsimp only [putL, setL, evL, getL]
    refine HK_read 13 (v := .int .i64 p0_3) rfl (by kernel_rfl) (fun c l s h => hQp c l s h) rfl (fun s' hR' K hK => ?_) rfl rfl hR ?_
    · refine o_load' rfl Try.underlying3 rfl (has_gro hR' (hH0.hasv 0 rfl rfl)) ?_
      exact hK
    try dsimp only [putL, setL, evL, getL]
    refine HK_two 6 15 (by kernel_rfl) rfl rfl (fun _ => hR) rfl rfl ?_ ?_
    · obtain ⟨u30, hu30, H⟩ := headE H
      skip
      refine o_call (args := #[.slice (cutA A0_1p c0_1p (Int.toNat p1) (Kd.sz KI)) x28.length (c0_1p - Int.toNat p1)]) Try.func91 rfl rfl rfl (spec_l1Own.ok sb s3 no (cutA A0_1p c0_1p (Int.toNat p1) (Kd.sz KI)) (c0_1p - Int.toNat p1) x28 D28 (Hp.own hH.bs) _ hu30) ?_
      rintro _ s30 ⟨A31, c31, rfl, hD⟩
      replace hR := hR.trans hD.gro
      replace hH := hH.back0 hD (Up.refl _ _ _)
      clear hD
      dsimp only [addC, setC, rmC, selC, getC] at hH
      try dsimp only [putL, setL, evL, getL]
      refine HK_two 11 15 (by kernel_rfl) rfl rfl (fun _ => hR) rfl rfl ?_ ?_
      · obtain ⟨u32, hu32, H⟩ := headE H
        skip
        refine o_call (args := #[.slice (cutA A0_2p c0_2p (Int.toNat p1) (Kd.sz KI)) x29.length (c0_2p - Int.toNat p1)]) Try.func91 rfl rfl rfl (spec_l1Own.ok sb s30 no (cutA A0_2p c0_2p (Int.toNat p1) (Kd.sz KI)) (c0_2p - Int.toNat p1) x29 D29 (Hp.own hH.bs) _ hu32) ?_
        rintro _ s32 ⟨A33, c33, rfl, hD⟩
        replace hR := hR.trans hD.gro
        replace hH := hH.back0 hD (Up.refl _ _ _)
        clear hD
        dsimp only [addC, setC, rmC, selC, getC] at hH
        try dsimp only [putL, setL, evL, getL]
        refine HK_readP 14 (v := .agg #[.int .i64 p0_0, .slice A31 u30.length c31, .slice A33 u32.length c33, .int .i64 p0_3]) rfl (by kernel_rfl) (fun c l s h => hQp c l s h) rfl (fun s' K hK => ?_) rfl rfl (fun _ => hR) ?_
        · refine o_build (pl := [(0, 1), (1, 1), (2, 1), (3, 1)]) (cs := #[.int .i64 p0_0, .slice A31 u30.length c31, .slice A33 u32.length c33, .int .i64 p0_3]) Try.underlying31 tI31 (by kernel_rfl) (by kernel_rfl) rfl ?_
          exact hK
        try dsimp only [putL, setL, evL, getL]
        refine HK_one 15 (by kernel_rfl) rfl (fun _ => hR) rfl ?_
        refine o_allocH hH tI31 ?_
        intro b34 s34 hH' hG
        replace hR := hR.trans hG
        replace hH : Hp sb s F0 s34 [Ck.ov b2 [.int .i64 p0_0, .slice A0_1p p0_1.length c0_1p, .slice A0_2p p0_2.length c0_2p, .int .i64 p0_3] 31, Ck.ov b3 [.int .i64 0, .slice none 0 0, .slice none 0 0, .int .i64 0] 31, Ck.ol OI 3 A31 c31 u30, Ck.ol OI 3 A33 c33 u32, Ck.ov b34 [.int .i64 0, .slice none 0 0, .slice none 0 0, .int .i64 0] 31] := hH'
        clear hH' hG
        try dsimp only [putL, setL, evL, getL]
        refine HK_one 16 (by kernel_rfl) rfl (fun _ => hR) rfl ?_
        refine o_stvH (vs := [.int .i64 p0_0, .slice A31 u30.length c31, .slice A33 u32.length c33, .int .i64 p0_3]) (us' := [.int .i64 p0_0, .slice A31 u30.length c31, .slice A33 u32.length c33, .int .i64 p0_3]) hH 4 rfl rfl rfl rfl rfl tI31 rfl (List.cons_ne_nil _ _) rfl rfl rfl ?_
        intro s35 hH'
        replace hH : Hp sb s F0 s35 [Ck.ov b2 [.int .i64 p0_0, .slice A0_1p p0_1.length c0_1p, .slice A0_2p p0_2.length c0_2p, .int .i64 p0_3] 31, Ck.ov b3 [.int .i64 0, .slice none 0 0, .slice none 0 0, .int .i64 0] 31, Ck.ol OI 3 A31 c31 u30, Ck.ol OI 3 A33 c33 u32, Ck.ov b34 [.int .i64 p0_0, .slice A31 u30.length c31, .slice A33 u32.length c33, .int .i64 p0_3] 31] := hH'
        clear hH'
        try dsimp only [putL, setL, evL, getL]
        refine HK_done' (by kernel_rfl) (by kernel_rfl) ?_
        exact hK4 _ _ ⟨b34, p0_0, u30, A31, c31, u32, A33, c33, p0_3, H, rfl, hH.sel [2, 3, 0, 1, 4] (by decide)⟩
      · skip
        refine o_allocH hH tI31 ?_
        intro b36 s36 hH' hG
        replace hR := hR.trans hG
        replace hH : Hp sb s F0 s36 [Ck.ov b2 [.int .i64 p0_0, .slice A0_1p p0_1.length c0_1p, .slice A0_2p p0_2.length c0_2p, .int .i64 p0_3] 31, Ck.ov b3 [.int .i64 0, .slice none 0 0, .slice none 0 0, .int .i64 0] 31, Ck.ol OI 3 A31 c31 u30, Ck.ov b36 [.int .i64 0, .slice none 0 0, .slice none 0 0, .int .i64 0] 31] := hH'
        clear hH' hG
        try dsimp only [putL, setL, evL, getL]
        obtain ⟨u37, hu37, H⟩ := headE H
        refine HK_one 11 (by kernel_rfl) rfl (fun _ => hR) rfl ?_
        refine o_call (args := #[.slice (cutA A0_2p c0_2p (Int.toNat p1) (Kd.sz KI)) x29.length (c0_2p - Int.toNat p1)]) Try.func91 rfl rfl rfl (spec_l1Own.ok sb s36 no (cutA A0_2p c0_2p (Int.toNat p1) (Kd.sz KI)) (c0_2p - Int.toNat p1) x29 D29 (Hp.own hH.bs) _ hu37) ?_
        rintro _ s37 ⟨A38, c38, rfl, hD⟩
        replace hR := hR.trans hD.gro
        replace hH := hH.back0 hD (Up.refl _ _ _)
        clear hD
        dsimp only [addC, setC, rmC, selC, getC] at hH
        try dsimp only [putL, setL, evL, getL]
        refine HK_readP 14 (v := .agg #[.int .i64 p0_0, .slice A31 u30.length c31, .slice A38 u37.length c38, .int .i64 p0_3]) rfl (by kernel_rfl) (fun c l s h => hQp c l s h) rfl (fun s' K hK => ?_) rfl rfl (fun _ => hR) ?_
        · refine o_build (pl := [(0, 1), (1, 1), (2, 1), (3, 1)]) (cs := #[.int .i64 p0_0, .slice A31 u30.length c31, .slice A38 u37.length c38, .int .i64 p0_3]) Try.underlying31 tI31 (by kernel_rfl) (by kernel_rfl) rfl ?_
          exact hK
        try dsimp only [putL, setL, evL, getL]
        refine HK_one 16 (by kernel_rfl) rfl (fun _ => hR) rfl ?_
        refine o_stvH (vs := [.int .i64 p0_0, .slice A31 u30.length c31, .slice A38 u37.length c38, .int .i64 p0_3]) (us' := [.int .i64 p0_0, .slice A31 u30.length c31, .slice A38 u37.length c38, .int .i64 p0_3]) hH 3 rfl rfl rfl rfl rfl tI31 rfl (List.cons_ne_nil _ _) rfl rfl rfl ?_
        intro s39 hH'
        replace hH : Hp sb s F0 s39 [Ck.ov b2 [.int .i64 p0_0, .slice A0_1p p0_1.length c0_1p, .slice A0_2p p0_2.length c0_2p, .int .i64 p0_3] 31, Ck.ov b3 [.int .i64 0, .slice none 0 0, .slice none 0 0, .int .i64 0] 31, Ck.ol OI 3 A31 c31 u30, Ck.ov b36 [.int .i64 p0_0, .slice A31 u30.length c31, .slice A38 u37.length c38, .int .i64 p0_3] 31, Ck.ol OI 3 A38 c38 u37] := hH'
        clear hH'
        try dsimp only [putL, setL, evL, getL]
        refine HK_done' (by kernel_rfl) (by kernel_rfl) ?_
        exact hK4 _ _ ⟨b36, p0_0, u30, A31, c31, u37, A38, c38, p0_3, H, rfl, hH.sel [2, 4, 0, 1, 3] (by decide)⟩
    · skip
      refine o_allocH hH tI31 ?_
      intro b40 s40 hH' hG
      replace hR := hR.trans hG
      replace hH : Hp sb s F0 s40 [Ck.ov b2 [.int .i64 p0_0, .slice A0_1p p0_1.length c0_1p, .slice A0_2p p0_2.length c0_2p, .int .i64 p0_3] 31, Ck.ov b3 [.int .i64 0, .slice none 0 0, .slice none 0 0, .int .i64 0] 31, Ck.ov b40 [.int .i64 0, .slice none 0 0, .slice none 0 0, .int .i64 0] 31] := hH'
      clear hH' hG
      try dsimp only [putL, setL, evL, getL]
      obtain ⟨u41, hu41, H⟩ := headE H
      refine HK_one 6 (by kernel_rfl) rfl (fun _ => hR) rfl ?_
      refine o_call (args := #[.slice (cutA A0_1p c0_1p (Int.toNat p1) (Kd.sz KI)) x28.length (c0_1p - Int.toNat p1)]) Try.func91 rfl rfl rfl (spec_l1Own.ok sb s40 no (cutA A0_1p c0_1p (Int.toNat p1) (Kd.sz KI)) (c0_1p - Int.toNat p1) x28 D28 (Hp.own hH.bs) _ hu41) ?_
      rintro _ s41 ⟨A42, c42, rfl, hD⟩
      replace hR := hR.trans hD.gro
      replace hH := hH.back0 hD (Up.refl _ _ _)
      clear hD
      dsimp only [addC, setC, rmC, selC, getC] at hH
      try dsimp only [putL, setL, evL, getL]
      obtain ⟨u43, hu43, H⟩ := headE H
      refine HK_one 11 (by kernel_rfl) rfl (fun _ => hR) rfl ?_
      refine o_call (args := #[.slice (cutA A0_2p c0_2p (Int.toNat p1) (Kd.sz KI)) x29.length (c0_2p - Int.toNat p1)]) Try.func91 rfl rfl rfl (spec_l1Own.ok sb s41 no (cutA A0_2p c0_2p (Int.toNat p1) (Kd.sz KI)) (c0_2p - Int.toNat p1) x29 D29 (Hp.own hH.bs) _ hu43) ?_
      rintro _ s43 ⟨A44, c44, rfl, hD⟩
      replace hR := hR.trans hD.gro
      replace hH := hH.back0 hD (Up.refl _ _ _)
      clear hD
      dsimp only [addC, setC, rmC, selC, getC] at hH
      try dsimp only [putL, setL, evL, getL]
      refine HK_readP 14 (v := .agg #[.int .i64 p0_0, .slice A42 u41.length c42, .slice A44 u43.length c44, .int .i64 p0_3]) rfl (by kernel_rfl) (fun c l s h => hQp c l s h) rfl (fun s' K hK => ?_) rfl rfl (fun _ => hR) ?_
      · refine o_build (pl := [(0, 1), (1, 1), (2, 1), (3, 1)]) (cs := #[.int .i64 p0_0, .slice A42 u41.length c42, .slice A44 u43.length c44, .int .i64 p0_3]) Try.underlying31 tI31 (by kernel_rfl) (by kernel_rfl) rfl ?_
        exact hK
      try dsimp only [putL, setL, evL, getL]
      refine HK_one 16 (by kernel_rfl) rfl (fun _ => hR) rfl ?_
      refine o_stvH (vs := [.int .i64 p0_0, .slice A42 u41.length c42, .slice A44 u43.length c44, .int .i64 p0_3]) (us' := [.int .i64 p0_0, .slice A42 u41.length c42, .slice A44 u43.length c44, .int .i64 p0_3]) hH 2 rfl rfl rfl rfl rfl tI31 rfl (List.cons_ne_nil _ _) rfl rfl rfl ?_
      intro s45 hH'
      replace hH : Hp sb s F0 s45 [Ck.ov b2 [.int .i64 p0_0, .slice A0_1p p0_1.length c0_1p, .slice A0_2p p0_2.length c0_2p, .int .i64 p0_3] 31, Ck.ov b3 [.int .i64 0, .slice none 0 0, .slice none 0 0, .int .i64 0] 31, Ck.ov b40 [.int .i64 p0_0, .slice A42 u41.length c42, .slice A44 u43.length c44, .int .i64 p0_3] 31, Ck.ol OI 3 A42 c42 u41, Ck.ol OI 3 A44 c44 u43] := hH'
      clear hH'
      try dsimp only [putL, setL, evL, getL]
      refine HK_done' (by kernel_rfl) (by kernel_rfl) ?_
      exact hK4 _ _ ⟨b40, p0_0, u41, A42, c42, u43, A44, c44, p0_3, H, rfl, hH.sel [3, 4, 0, 1, 2] (by decide)⟩
  · rintro l' s46 ⟨b23, x24, x25, A25, c25, x26, A26, c26, x27, H, hl, hH⟩
    generalize getL l' 9 = j9, getL l' 10 = j10, getL l' 11 = j11, getL l' 12 = j12, getL l' 13 = j13, getL l' 14 = j14, getL l' 15 = j15, getL l' 16 = j16, getL l' 17 = j17, getL l' 18 = j18, getL l' 19 = j19, getL l' 20 = j20, getL l' 21 = j21, getL l' 22 = j22, getL l' 23 = j23 at hl
    subst hl
    replace H := hG4 _ H
    try dsimp only at H
    refine HT_seq_k ?_
    intro K47 hK47
    refine HT_seq_k ?_
    intro K48 hK48
    refine HT_region ?_
    refine HL_cons rfl ?_
    refine o_faddr' (ft := 22) (off := 2) rfl Try.underlying31 rfl tI22 (by decide) ?_
    try dsimp only [putL, setL, evL, getL]
    refine HL_cons rfl ?_
    refine o_load' rfl Try.underlying22 rfl (hH.hasv 2 rfl rfl) ?_
    try dsimp only [putL, setL, evL, getL]
    refine HL_cons rfl ?_
    refine o_move ?_
    try dsimp only [putL, setL, evL, getL]
    obtain ⟨x49, hx49, H⟩ := headE H
    refine HL_cons rfl ?_
    refine o_cutA (xs := p0_2) (kl := .i64) (kh := .i64) (L := 0) (H := p1) rfl rfl rfl Try.underlying22 tI3 HRp0_2.1 hx49 ?_
    have D49 := HRp0_2.cut hx49
    try dsimp only [putL, setL, evL, getL]
    refine HL_cons rfl ?_
    refine o_len rfl Try.underlying22 ?_
    try dsimp only [putL, setL, evL, getL]
    refine HL_cons rfl ?_
    refine o_move ?_
    try dsimp only [putL, setL, evL, getL]
    refine HL_nil ?_
    refine hK48 _ _ ?_
    refine joinH H fun G50 hG50 H => ?_
    refine HT_toK (fun l' s' => ∃ (x77 : Int), G50 x77 = some r ∧ l' = [.agg #[.int .i64 p0_0, .slice A0_1p p0_1.length c0_1p, .slice A0_2p p0_2.length c0_2p, .int .i64 p0_3], .int .i64 p1, .pointer (some ⟨b2, 0, none⟩), undef, .pointer (some ⟨b3, 0, none⟩), .slice none 0 0, .pointer (some ⟨b23, 0, none⟩), undef, getL l' 8, j9, j10, j11, j12, j13, j14, j15, j16, j17, j18, j19, j20, j21, j22, j23, .pointer (some ⟨b2, 0 + 2, none⟩), .slice A0_2p p0_2.length c0_2p, .int .i64 p1, .slice (cutA A0_2p c0_2p (Int.toNat 0) (Kd.sz KI)) x49.length (c0_2p - Int.toNat 0), .int .i64 (x49.length : Int), getL l' 29, getL l' 30, getL l' 31, getL l' 32, getL l' 33, getL l' 34, getL l' 35, getL l' 36, getL l' 37, getL l' 38, undef, undef, undef, undef, undef, undef] ∧ Hp sb s F0 s' [Ck.ol OI 3 A25 c25 x25, Ck.ol OI 3 A26 c26 x26, Ck.ov b2 [.int .i64 p0_0, .slice A0_1p p0_1.length c0_1p, .slice A0_2p p0_2.length c0_2p, .int .i64 p0_3] 31, Ck.ov b3 [.int .i64 0, .slice none 0 0, .slice none 0 0, .int .i64 0] 31, Ck.ov b23 [.int .i64 x24, .slice A25 x25.length c25, .slice A26 x26.length c26, .int .i64 x77] 31]) ?_ ?_
    · intro K50 hK50
      refine HT_block ?_
      refine HT_loopK (fun kf l' s' => ∃ (x85 : Int) (x86 : Int), (spec_l10Drop.l1 x49 kf x85 x86).bind G50 = some r ∧ l' = [.agg #[.int .i64 p0_0, .slice A0_1p p0_1.length c0_1p, .slice A0_2p p0_2.length c0_2p, .int .i64 p0_3], .int .i64 p1, .pointer (some ⟨b2, 0, none⟩), undef, .pointer (some ⟨b3, 0, none⟩), .slice none 0 0, .pointer (some ⟨b23, 0, none⟩), undef, getL l' 8, j9, j10, j11, j12, j13, j14, j15, j16, j17, j18, j19, j20, j21, j22, j23, .pointer (some ⟨b2, 0 + 2, none⟩), .slice A0_2p p0_2.length c0_2p, .int .i64 p1, .slice (cutA A0_2p c0_2p (Int.toNat 0) (Kd.sz KI)) x49.length (c0_2p - Int.toNat 0), .int .i64 (x49.length : Int), .int .i64 x85, getL l' 30, getL l' 31, getL l' 32, getL l' 33, getL l' 34, getL l' 35, getL l' 36, getL l' 37, getL l' 38, undef, undef, undef, undef, undef, undef] ∧ Hp sb s F0 s' [Ck.ol OI 3 A25 c25 x25, Ck.ol OI 3 A26 c26 x26, Ck.ov b2 [.int .i64 p0_0, .slice A0_1p p0_1.length c0_1p, .slice A0_2p p0_2.length c0_2p, .int .i64 p0_3] 31, Ck.ov b3 [.int .i64 0, .slice none 0 0, .slice none 0 0, .int .i64 0] 31, Ck.ov b23 [.int .i64 x24, .slice A25 x25.length c25, .slice A26 x26.length c26, .int .i64 x86] 31]) ((((x49.length : Int)) - (0)).toNat + 2) ⟨0, x27, H, rfl, hH⟩ ?_
      rintro kf l' s96 ⟨x85, x86, H, hl, hH⟩ K96 hK96
      generalize getL l' 8 = j8, getL l' 30 = j30, getL l' 31 = j31, getL l' 32 = j32, getL l' 33 = j33, getL l' 34 = j34, getL l' 35 = j35, getL l' 36 = j36, getL l' 37 = j37, getL l' 38 = j38 at hl
      subst hl
      cases kf with
      | zero => simp [spec_l10Drop.l1] at H
      | succ kf =>
        rw [spec_l10Drop.l1] at H
        refine HT_seq_k ?_
        intro K97 hK97
        refine HT_region ?_
        refine HL_cons rfl ?_
        refine o_bin rfl rfl rfl ?_
        try dsimp only [putL, setL, evL, getL]
        refine HL_nil ?_
        refine hK97 _ _ ?_
        refine HT_seq_k ?_
        intro K98 hK98
        rcases Bool.eq_false_or_eq_true (decide (x85 < (x49.length : Int))) with hb99 | hb99
        · replace H := iteT hb99 H
          refine HT_true (congrArg Value.bool hb99) ?_
          refine HT_skip ?_
          refine hK98 _ _ ?_
          refine HT_seq_k ?_
          intro K100 hK100
          refine HT_block ?_
          refine HT_seq_k ?_
          intro K101 hK101
          refine HT_region ?_
          obtain ⟨u102, hu102, H⟩ := headE H
          obtain ⟨b102, o102, cs102, hr102, hh102, hel102⟩ := Rd.elb D49 hu102
          obtain rfl := hr102
          refine HL_cons rfl ?_
          refine hel102 s96 rfl rfl Try.underlying22 tI3 ?_
          try dsimp only [putL, setL, evL, getL]
          refine HL_cons rfl ?_
          refine o_load' rfl Try.underlying3 rfl ((hh102 hH.bs.mono) 0 _ rfl) ?_
          try dsimp only [putL, setL, evL, getL]
          refine HL_cons rfl ?_
          refine o_assign ?_
          try dsimp only [putL, setL, evL, getL]
          refine HL_nil ?_
          refine hK101 _ _ ?_
          refine HT_region ?_
          refine HL_cons rfl ?_
          refine o_faddr' (ft := 3) (off := 3) rfl Try.underlying31 rfl tI3 (by decide) ?_
          try dsimp only [putL, setL, evL, getL]
          refine HL_cons rfl ?_
          refine o_load' rfl Try.underlying3 rfl (hH.hasv 4 rfl rfl) ?_
          try dsimp only [putL, setL, evL, getL]
          refine HL_cons rfl ?_
          refine o_move ?_
          try dsimp only [putL, setL, evL, getL]
          refine HL_cons rfl ?_
          refine o_bin rfl rfl rfl ?_
          try dsimp only [putL, setL, evL, getL]
          refine HL_cons rfl ?_
          refine o_faddr' (ft := 3) (off := 3) rfl Try.underlying31 rfl tI3 (by decide) ?_
          try dsimp only [putL, setL, evL, getL]
          refine HL_cons rfl ?_
          refine o_stvH (vs := [.int .i64 (IntKind.i64.wrap (x86 + u102))]) (us' := [.int .i64 x24, .slice A25 x25.length c25, .slice A26 x26.length c26, .int .i64 (IntKind.i64.wrap (x86 + u102))]) hH 4 rfl rfl rfl rfl rfl tI3 rfl (List.cons_ne_nil _ _) rfl rfl rfl ?_
          intro s103 hH'
          replace hH : Hp sb s F0 s103 [Ck.ol OI 3 A25 c25 x25, Ck.ol OI 3 A26 c26 x26, Ck.ov b2 [.int .i64 p0_0, .slice A0_1p p0_1.length c0_1p, .slice A0_2p p0_2.length c0_2p, .int .i64 p0_3] 31, Ck.ov b3 [.int .i64 0, .slice none 0 0, .slice none 0 0, .int .i64 0] 31, Ck.ov b23 [.int .i64 x24, .slice A25 x25.length c25, .slice A26 x26.length c26, .int .i64 (IntKind.i64.wrap (x86 + u102))] 31] := hH'
          clear hH'
          try dsimp only [putL, setL, evL, getL]
          refine HL_nil ?_
          refine hK100 _ _ ?_
          refine HT_region ?_
          refine HL_cons rfl ?_
          refine o_bin rfl rfl rfl ?_
          try dsimp only [putL, setL, evL, getL]
          refine HL_cons rfl ?_
          refine o_move ?_
          try dsimp only [putL, setL, evL, getL]
          refine HL_nil ?_
          exact hK96 _ _ ⟨kf, Nat.lt_succ_self kf, IntKind.i64.wrap (x85 + 1), IntKind.i64.wrap (x86 + u102), H, rfl, hH⟩
        · replace H := iteF hb99 H
          refine HT_false (congrArg Value.bool hb99) ?_
          refine HT_exit ?_
          exact hK50 _ _ ⟨x86, H, rfl, hH⟩
    · rintro l' s104 ⟨x77, H, hl, hH⟩
      generalize getL l' 8 = j8, getL l' 29 = j29, getL l' 30 = j30, getL l' 31 = j31, getL l' 32 = j32, getL l' 33 = j33, getL l' 34 = j34, getL l' 35 = j35, getL l' 36 = j36, getL l' 37 = j37, getL l' 38 = j38 at hl
      subst hl
      replace H := hG50 _ H
      try dsimp only at H
      refine hK47 _ _ ?_
      refine HT_seq_k ?_
      intro K105 hK105
      refine HK_draw (fun s' => Gro s104 s') 6 hMix ?_
      have hR := Gro.refl s104
      have hH0 := hH
      refine HK_read 0 (v := .agg #[.int .i64 x24, .slice A25 x25.length c25, .slice A26 x26.length c26, .int .i64 x77]) rfl (by kernel_rfl) (fun c l s h => hQp c l s h) rfl (fun s' hR' K hK => ?_) rfl rfl hR ?_
      · refine o_loads' [.int .i64 x24, .slice A25 x25.length c25, .slice A26 x26.length c26, .int .i64 x77] rfl Try.underlying31 rfl tI31 rfl (fun j v hj => has_gro hR' ((hH0.partv 4 rfl (0) [.int .i64 x24, .slice A25 x25.length c25, .slice A26 x26.length c26, .int .i64 x77] rfl) j v hj)) ?_
        exact hK
      try dsimp only [putL, setL, evL, getL]
      refine HK_readP 1 (v := .pointer (some ⟨b2, 0 + 1, none⟩)) rfl (by kernel_rfl) (fun c l s h => hQp c l s h) rfl (fun s' K hK => ?_) rfl rfl (fun _ => hR) ?_
      · refine o_faddr' (ft := 22) (off := 1) rfl Try.underlying31 rfl tI22 (by decide) ?_
        exact hK
      try dsimp only [putL, setL, evL, getL]
      refine HK_read 2 (v := .slice A0_1p p0_1.length c0_1p) rfl (by kernel_rfl) (fun c l s h => hQp c l s h) rfl (fun s' hR' K hK => ?_) rfl rfl hR ?_
      · refine o_load' rfl Try.underlying22 rfl (has_gro hR' (hH0.hasv 2 rfl rfl)) ?_
        exact hK
      try dsimp only [putL, setL, evL, getL]
      refine HK_readP 3 (v := .int .i64 p1) rfl (by kernel_rfl) (fun c l s h => hQp c l s h) rfl (fun s' K hK => ?_) rfl rfl (fun _ => hR) ?_
      · refine o_move ?_
        exact hK
      try dsimp only [putL, setL, evL, getL]
      obtain ⟨x106, hx106, H⟩ := headE H
      refine HK_readP 4 (v := .slice (cutA A0_1p c0_1p (Int.toNat 0) (Kd.sz KI)) x106.length (c0_1p - Int.toNat 0)) rfl (by kernel_rfl) (fun c l s h => hQp c l s h) rfl (fun s' K hK => ?_) rfl rfl (fun _ => hR) ?_
      · refine o_cutA (xs := p0_1) (kl := .i64) (kh := .i64) (L := 0) (H := p1) rfl rfl rfl Try.underlying22 tI3 HRp0_1.1 hx106 ?_
        exact hK
      have D106 := HRp0_1.cut hx106
      try dsimp only [putL, setL, evL, getL]
      obtain ⟨u107, hu107, H⟩ := headE H
      refine HK_one 5 (by kernel_rfl) rfl (fun _ => hR) rfl ?_
      refine o_call (args := #[.slice (cutA A0_1p c0_1p (Int.toNat 0) (Kd.sz KI)) x106.length (c0_1p - Int.toNat 0)]) Try.func91 rfl rfl rfl (spec_l1Own.ok sb s104 no (cutA A0_1p c0_1p (Int.toNat 0) (Kd.sz KI)) (c0_1p - Int.toNat 0) x106 D106 (Hp.own hH.bs) _ hu107) ?_
      rintro _ s107 ⟨A108, c108, rfl, hD⟩
      replace hR := hR.trans hD.gro
      replace hH := hH.back0 hD (Up.refl _ _ _)
      clear hD
      dsimp only [addC, setC, rmC, selC, getC] at hH
      try dsimp only [putL, setL, evL, getL]
      refine HK_one 6 (by kernel_rfl) rfl (fun _ => hR) rfl ?_
      refine o_stvH (vs := [.int .i64 x24, .slice A25 x25.length c25, .slice A26 x26.length c26, .int .i64 x77]) (us' := [.int .i64 x24, .slice A25 x25.length c25, .slice A26 x26.length c26, .int .i64 x77]) hH 3 rfl rfl rfl rfl rfl tI31 rfl (List.cons_ne_nil _ _) rfl rfl rfl ?_
      intro s109 hH'
      replace hH : Hp sb s F0 s109 [Ck.ol OI 3 A25 c25 x25, Ck.ol OI 3 A26 c26 x26, Ck.ov b2 [.int .i64 p0_0, .slice A0_1p p0_1.length c0_1p, .slice A0_2p p0_2.length c0_2p, .int .i64 p0_3] 31, Ck.ov b3 [.int .i64 x24, .slice A25 x25.length c25, .slice A26 x26.length c26, .int .i64 x77] 31, Ck.ov b23 [.int .i64 x24, .slice A25 x25.length c25, .slice A26 x26.length c26, .int .i64 x77] 31, Ck.ol OI 3 A108 c108 u107] := hH'
      clear hH'
      try dsimp only [putL, setL, evL, getL]
      refine HK_one 7 (by kernel_rfl) rfl (fun h => by cases h) rfl ?_
      refine o_assign ?_
      try dsimp only [putL, setL, evL, getL]
      refine HK_done' (by kernel_rfl) (by kernel_rfl) ?_
      refine hK105 _ _ ?_
      refine HT_ret ?_
      obtain rfl := Option.some.inj (show some _ = some r from H)
      exact hQr _ _ [.agg #[.int .i64 x24, .slice A25 x25.length c25, .slice A26 x26.length c26, .int .i64 x77], .slice A108 u107.length c108] ⟨ResV.cells rfl Try.underlying31 rfl tI31 (hH.var 3 rfl) rfl, rfl, trivial⟩ ⟨A25, c25, A26, c26, A108, c108, rfl, hH.sel [0, 1, 5] (by decide)⟩
def spec_l10Put.f (p0_0 : Int) (p0_1 : List (Int)) (p0_2 : List (Int)) (p0_3 : Int) (p1 : List (Int)) (p2 : List (Int)) : Option (Int × (List (Int)) × (List (Int)) × Int × (List (Int))) := (spec_l1Own.f p0_1).bind fun u8 => (app? 17592186044416 u8 p1).bind fun x10 => (spec_l1Own.f p0_2).bind fun u13 => (app? 17592186044416 u13 p2).bind fun x15 => (spec_l1Most.f 0 (IntKind.i64.wrap ((x10.length : Int) - p0_0))).bind fun u18 => (spec_l10Drop.f p0_0 x10 x15 p0_3 u18).bind fun u19 => some (u19.1, u19.2.1, u19.2.2.1, u19.2.2.2.1, u19.2.2.2.2)
def spec_l10Put.post (sb s : St) (F0 : Fp) (r : Int × (List (Int)) × (List (Int)) × Int × (List (Int))) : Value → St → Prop := fun v s' => ∃ (A1 : Option Addr) (c1 : Nat) (A2 : Option Addr) (c2 : Nat) (A4 : Option Addr) (c4 : Nat), v = .tuple #[.agg #[.int .i64 r.1, .slice A1 r.2.1.length c1, .slice A2 r.2.2.1.length c2, .int .i64 r.2.2.2.1], .slice A4 r.2.2.2.2.length c4] ∧ Hp sb s F0 s' [Ck.ol OI 3 A1 c1 r.2.1, Ck.ol OI 3 A2 c2 r.2.2.1, Ck.ol OI 3 A4 c4 r.2.2.2.2]
set_option maxRecDepth 100000 in
set_option maxHeartbeats 4000000 in
theorem spec_l10Put.ok (sb s : St) (F0 : Fp) (p0_0 : Int) (A0_1p : Option Addr) (c0_1p : Nat) (p0_1 : List (Int)) (A0_2p : Option Addr) (c0_2p : Nat) (p0_2 : List (Int)) (p0_3 : Int) (A1p : Option Addr) (c1p : Nat) (p1 : List (Int)) (A2p : Option Addr) (c2p : Nat) (p2 : List (Int)) (HRp0_1 : Rd KI sb A0_1p c0_1p p0_1) (HRp0_2 : Rd KI sb A0_2p c0_2p p0_2) (HRp1 : Rd KI sb A1p c1p p1) (HRp2 : Rd KI sb A2p c2p p2) (hH : Hp sb s F0 s []) (r : Int × (List (Int)) × (List (Int)) × Int × (List (Int))) (H : spec_l10Put.f p0_0 p0_1 p0_2 p0_3 p1 p2 = some r) : GCall Try.prog 109 #[.agg #[.int .i64 p0_0, .slice A0_1p p0_1.length c0_1p, .slice A0_2p p0_2.length c0_2p, .int .i64 p0_3], .slice A1p p1.length c1p, .slice A2p p2.length c2p] s (spec_l10Put.post sb s F0 r) := by
  refine GCall_ofk [.cell 6 31, .tmp 7] [.agg #[.int .i64 p0_0, .slice A0_1p p0_1.length c0_1p, .slice A0_2p p0_2.length c0_2p, .int .i64 p0_3], .slice A1p p1.length c1p, .slice A2p p2.length c2p, undef, undef, undef, undef, undef, undef, undef, undef, undef, undef, undef, undef, undef, undef, undef, undef, undef, undef, undef, undef, undef, undef, undef, undef, undef, undef, undef, undef, undef, undef, undef, undef, undef, undef] Try.func109 rfl rfl rfl ?_
  intro w Q hQr hQn hQp
  replace H := topE H
  unfold spec_l10Put.f at H
  refine HT_seq_k ?_
  intro K1 hK1
  refine HT_region ?_
  refine HL_cons rfl ?_
  refine o_boxH hH rfl ?_
  intro b2 s2 hH' hG
  replace hH : Hp sb s F0 s2 [Ck.ov b2 [.int .i64 p0_0, .slice A0_1p p0_1.length c0_1p, .slice A0_2p p0_2.length c0_2p, .int .i64 p0_3] 31] := hH'
  clear hH' hG
  try dsimp only [putL, setL, evL, getL]
  refine HL_cons rfl ?_
  refine o_allocH hH tI31 ?_
  intro b3 s3 hH' hG
  replace hH : Hp sb s F0 s3 [Ck.ov b2 [.int .i64 p0_0, .slice A0_1p p0_1.length c0_1p, .slice A0_2p p0_2.length c0_2p, .int .i64 p0_3] 31, Ck.ov b3 [.int .i64 0, .slice none 0 0, .slice none 0 0, .int .i64 0] 31] := hH'
  clear hH' hG
  try dsimp only [putL, setL, evL, getL]
  refine HL_cons rfl ?_
  refine o_assign ?_
  try dsimp only [putL, setL, evL, getL]
  refine HL_nil ?_
  refine hK1 _ _ ?_
  refine HT_seq_k ?_
  intro K4 hK4
  refine HT_region ?_
  refine HL_cons rfl ?_
  refine o_faddr' (ft := 3) (off := 0) rfl Try.underlying31 rfl tI3 (by decide) ?_
  try dsimp only [putL, setL, evL, getL]
  refine HL_cons rfl ?_
  refine o_load' rfl Try.underlying3 rfl (hH.hasv 0 rfl rfl) ?_
  try dsimp only [putL, setL, evL, getL]
  refine HL_cons rfl ?_
  refine o_faddr' (ft := 3) (off := 3) rfl Try.underlying31 rfl tI3 (by decide) ?_
  try dsimp only [putL, setL, evL, getL]
  refine HL_cons rfl ?_
  refine o_load' rfl Try.underlying3 rfl (hH.hasv 0 rfl rfl) ?_
  try dsimp only [putL, setL, evL, getL]
  refine HL_cons rfl ?_
  refine o_build (pl := [(0, 1), (1, 1), (2, 1), (3, 1)]) (cs := #[.int .i64 p0_0, .slice none 0 0, .slice none 0 0, .int .i64 p0_3]) Try.underlying31 tI31 (by kernel_rfl) (by kernel_rfl) rfl ?_
  try dsimp only [putL, setL, evL, getL]
  refine HL_cons rfl ?_
  refine o_allocH hH tI31 ?_
  intro b5 s5 hH' hG
  replace hH : Hp sb s F0 s5 [Ck.ov b2 [.int .i64 p0_0, .slice A0_1p p0_1.length c0_1p, .slice A0_2p p0_2.length c0_2p, .int .i64 p0_3] 31, Ck.ov b3 [.int .i64 0, .slice none 0 0, .slice none 0 0, .int .i64 0] 31, Ck.ov b5 [.int .i64 0, .slice none 0 0, .slice none 0 0, .int .i64 0] 31] := hH'
  clear hH' hG
  try dsimp only [putL, setL, evL, getL]
  refine HL_cons rfl ?_
  refine o_stvH (vs := [.int .i64 p0_0, .slice none 0 0, .slice none 0 0, .int .i64 p0_3]) (us' := [.int .i64 p0_0, .slice none 0 0, .slice none 0 0, .int .i64 p0_3]) hH 2 rfl rfl rfl rfl rfl tI31 rfl (List.cons_ne_nil _ _) rfl rfl rfl ?_
  intro s6 hH'
  replace hH : Hp sb s F0 s6 [Ck.ov b2 [.int .i64 p0_0, .slice A0_1p p0_1.length c0_1p, .slice A0_2p p0_2.length c0_2p, .int .i64 p0_3] 31, Ck.ov b3 [.int .i64 0, .slice none 0 0, .slice none 0 0, .int .i64 0] 31, Ck.ov b5 [.int .i64 p0_0, .slice none 0 0, .slice none 0 0, .int .i64 p0_3] 31] := hH'
  clear hH'
  try dsimp only [putL, setL, evL, getL]
  refine HL_nil ?_
  refine hK4 _ _ ?_
  refine HT_seq_k ?_
  intro K7 hK7
  refine HT_region ?_
  refine HL_cons rfl ?_
  refine o_faddr' (ft := 22) (off := 1) rfl Try.underlying31 rfl tI22 (by decide) ?_
  try dsimp only [putL, setL, evL, getL]
  refine HL_cons rfl ?_
  refine o_load' rfl Try.underlying22 rfl (hH.hasv 0 rfl rfl) ?_
  try dsimp only [putL, setL, evL, getL]
  obtain ⟨u8, hu8, H⟩ := headE H
  refine HL_cons rfl ?_
  refine o_call (args := #[.slice A0_1p p0_1.length c0_1p]) Try.func91 rfl rfl rfl (spec_l1Own.ok sb s6 no A0_1p c0_1p p0_1 HRp0_1 (Hp.own hH.bs) _ hu8) ?_
  rintro _ s8 ⟨A9, c9, rfl, hD⟩
  replace hH := hH.back0 hD (Up.refl _ _ _)
  clear hD
  dsimp only [addC, setC, rmC, selC, getC] at hH
  try dsimp only [putL, setL, evL, getL]
  refine HL_cons rfl ?_
  refine o_move ?_
  try dsimp only [putL, setL, evL, getL]
  obtain ⟨x10, hx10, H⟩ := headE H
  refine HL_cons rfl ?_
  refine o_appF (K := KI) (n := 17592186044416) (A := A9) (c := c9) (xs := u8) (ys := p1) (B := A1p) (c2 := c1p) hH 3 rfl rfl rfl rfl Try.underlying22 tI3 rfl (by decide) (by decide) (by decide) (Src.flat (HRp1.mono hH.bs.mono)) hx10 ?_
  intro A10 c10 s10 hH'
  replace hH : Hp sb s F0 s10 [Ck.ov b2 [.int .i64 p0_0, .slice A0_1p p0_1.length c0_1p, .slice A0_2p p0_2.length c0_2p, .int .i64 p0_3] 31, Ck.ov b3 [.int .i64 0, .slice none 0 0, .slice none 0 0, .int .i64 0] 31, Ck.ov b5 [.int .i64 p0_0, .slice none 0 0, .slice none 0 0, .int .i64 p0_3] 31, Ck.ol OI 3 A10 c10 x10] := hH'
  clear hH'
  try dsimp only [putL, setL, evL, getL]
  refine HL_cons rfl ?_
  refine o_faddr' (ft := 22) (off := 1) rfl Try.underlying31 rfl tI22 (by decide) ?_
  try dsimp only [putL, setL, evL, getL]
  refine HL_cons rfl ?_
  refine o_stvH (vs := [.slice A10 x10.length c10]) (us' := [.int .i64 p0_0, .slice A10 x10.length c10, .slice none 0 0, .int .i64 p0_3]) hH 2 rfl rfl rfl rfl rfl tI22 rfl (List.cons_ne_nil _ _) rfl rfl rfl ?_
  intro s11 hH'
  replace hH : Hp sb s F0 s11 [Ck.ov b2 [.int .i64 p0_0, .slice A0_1p p0_1.length c0_1p, .slice A0_2p p0_2.length c0_2p, .int .i64 p0_3] 31, Ck.ov b3 [.int .i64 0, .slice none 0 0, .slice none 0 0, .int .i64 0] 31, Ck.ov b5 [.int .i64 p0_0, .slice A10 x10.length c10, .slice none 0 0, .int .i64 p0_3] 31, Ck.ol OI 3 A10 c10 x10] := hH'
  clear hH'
  try dsimp only [putL, setL, evL, getL]
  refine HL_nil ?_
  refine hK7 _ _ ?_
  refine HT_seq_k ?_
  intro K12 hK12
  refine HT_region ?_
  refine HL_cons rfl ?_
  refine o_faddr' (ft := 22) (off := 2) rfl Try.underlying31 rfl tI22 (by decide) ?_
  try dsimp only [putL, setL, evL, getL]
  refine HL_cons rfl ?_
  refine o_load' rfl Try.underlying22 rfl (hH.hasv 0 rfl rfl) ?_
  try dsimp only [putL, setL, evL, getL]
  obtain ⟨u13, hu13, H⟩ := headE H
  refine HL_cons rfl ?_
  refine o_call (args := #[.slice A0_2p p0_2.length c0_2p]) Try.func91 rfl rfl rfl (spec_l1Own.ok sb s11 no A0_2p c0_2p p0_2 HRp0_2 (Hp.own hH.bs) _ hu13) ?_
  rintro _ s13 ⟨A14, c14, rfl, hD⟩
  replace hH := hH.back0 hD (Up.refl _ _ _)
  clear hD
  dsimp only [addC, setC, rmC, selC, getC] at hH
  try dsimp only [putL, setL, evL, getL]
  refine HL_cons rfl ?_
  refine o_move ?_
  try dsimp only [putL, setL, evL, getL]
  obtain ⟨x15, hx15, H⟩ := headE H
  refine HL_cons rfl ?_
  refine o_appF (K := KI) (n := 17592186044416) (A := A14) (c := c14) (xs := u13) (ys := p2) (B := A2p) (c2 := c2p) hH 4 rfl rfl rfl rfl Try.underlying22 tI3 rfl (by decide) (by decide) (by decide) (Src.flat (HRp2.mono hH.bs.mono)) hx15 ?_
  intro A15 c15 s15 hH'
  replace hH : Hp sb s F0 s15 [Ck.ov b2 [.int .i64 p0_0, .slice A0_1p p0_1.length c0_1p, .slice A0_2p p0_2.length c0_2p, .int .i64 p0_3] 31, Ck.ov b3 [.int .i64 0, .slice none 0 0, .slice none 0 0, .int .i64 0] 31, Ck.ov b5 [.int .i64 p0_0, .slice A10 x10.length c10, .slice none 0 0, .int .i64 p0_3] 31, Ck.ol OI 3 A10 c10 x10, Ck.ol OI 3 A15 c15 x15] := hH'
  clear hH'
  try dsimp only [putL, setL, evL, getL]
  refine HL_cons rfl ?_
  refine o_faddr' (ft := 22) (off := 2) rfl Try.underlying31 rfl tI22 (by decide) ?_
  try dsimp only [putL, setL, evL, getL]
  refine HL_cons rfl ?_
  refine o_stvH (vs := [.slice A15 x15.length c15]) (us' := [.int .i64 p0_0, .slice A10 x10.length c10, .slice A15 x15.length c15, .int .i64 p0_3]) hH 2 rfl rfl rfl rfl rfl tI22 rfl (List.cons_ne_nil _ _) rfl rfl rfl ?_
  intro s16 hH'
  replace hH : Hp sb s F0 s16 [Ck.ov b2 [.int .i64 p0_0, .slice A0_1p p0_1.length c0_1p, .slice A0_2p p0_2.length c0_2p, .int .i64 p0_3] 31, Ck.ov b3 [.int .i64 0, .slice none 0 0, .slice none 0 0, .int .i64 0] 31, Ck.ov b5 [.int .i64 p0_0, .slice A10 x10.length c10, .slice A15 x15.length c15, .int .i64 p0_3] 31, Ck.ol OI 3 A10 c10 x10, Ck.ol OI 3 A15 c15 x15] := hH'
  clear hH'
  try dsimp only [putL, setL, evL, getL]
  refine HL_nil ?_
  refine hK12 _ _ ?_
  refine HT_seq_k ?_
  intro K17 hK17
  refine HK_draw (fun s' => Gro s16 s') 11 hMix ?_
  have hR := Gro.refl s16
  have hH0 := hH
  refine HK_read 0 (v := .agg #[.int .i64 p0_0, .slice A10 x10.length c10, .slice A15 x15.length c15, .int .i64 p0_3]) rfl (by kernel_rfl) (fun c l s h => hQp c l s h) rfl (fun s' hR' K hK => ?_) rfl rfl hR ?_
  · refine o_loads' [.int .i64 p0_0, .slice A10 x10.length c10, .slice A15 x15.length c15, .int .i64 p0_3] rfl Try.underlying31 rfl tI31 rfl (fun j v hj => has_gro hR' ((hH0.partv 2 rfl (0) [.int .i64 p0_0, .slice A10 x10.length c10, .slice A15 x15.length c15, .int .i64 p0_3] rfl) j v hj)) ?_
    exact hK
  try dsimp only [putL, setL, evL, getL]
  refine HK_readP 1 (v := .pointer (some ⟨b5, 0 + 1, none⟩)) rfl (by kernel_rfl) (fun c l s h => hQp c l s h) rfl (fun s' K hK => ?_) rfl rfl (fun _ => hR) ?_
  · refine o_faddr' (ft := 22) (off := 1) rfl Try.underlying31 rfl tI22 (by decide) ?_
    exact hK
  try dsimp only [putL, setL, evL, getL]
  refine HK_read 2 (v := .slice A10 x10.length c10) rfl (by kernel_rfl) (fun c l s h => hQp c l s h) rfl (fun s' hR' K hK => ?_) rfl rfl hR ?_
  · refine o_load' rfl Try.underlying22 rfl (has_gro hR' (hH0.hasv 2 rfl rfl)) ?_
    exact hK
  try dsimp only [putL, setL, evL, getL]
  refine HK_readP 3 (v := .int .i64 (x10.length : Int)) rfl (by kernel_rfl) (fun c l s h => hQp c l s h) rfl (fun s' K hK => ?_) rfl rfl (fun _ => hR) ?_
  · refine o_len rfl Try.underlying22 ?_
    exact hK
  try dsimp only [putL, setL, evL, getL]
  refine HK_readP 4 (v := .pointer (some ⟨b2, 0 + 0, none⟩)) rfl (by kernel_rfl) (fun c l s h => hQp c l s h) rfl (fun s' K hK => ?_) rfl rfl (fun _ => hR) ?_
  · refine o_faddr' (ft := 3) (off := 0) rfl Try.underlying31 rfl tI3 (by decide) ?_
    exact hK
  try dsimp only [putL, setL, evL, getL]
  refine HK_read 5 (v := .int .i64 p0_0) rfl (by kernel_rfl) (fun c l s h => hQp c l s h) rfl (fun s' hR' K hK => ?_) rfl rfl hR ?_
  · refine o_load' rfl Try.underlying3 rfl (has_gro hR' (hH0.hasv 0 rfl rfl)) ?_
    exact hK
  try dsimp only [putL, setL, evL, getL]
  refine HK_readP 6 (v := .int .i64 (IntKind.i64.wrap ((x10.length : Int) - p0_0))) rfl (by kernel_rfl) (fun c l s h => hQp c l s h) rfl (fun s' K hK => ?_) rfl rfl (fun _ => hR) ?_
  · refine o_bin rfl rfl rfl ?_
    exact hK
  try dsimp only [putL, setL, evL, getL]
  obtain ⟨u18, hu18, H⟩ := headE H
  refine HK_one 7 (by kernel_rfl) rfl (fun _ => hR) rfl ?_
  refine o_call (args := #[.int .i64 0, .int .i64 (IntKind.i64.wrap ((x10.length : Int) - p0_0))]) Try.func150 rfl rfl rfl (spec_l1Most.ok sb s16 no 0 (IntKind.i64.wrap ((x10.length : Int) - p0_0)) (Hp.own hH.bs) _ hu18) ?_
  rintro _ s18 ⟨rfl, hD⟩
  replace hR := hR.trans hD.gro
  replace hH := hH.back0 hD (Up.refl _ _ _)
  clear hD
  dsimp only [addC, setC, rmC, selC, getC] at hH
  try dsimp only [putL, setL, evL, getL]
  obtain ⟨u19, hu19, H⟩ := headE H
  refine HK_one 8 (by kernel_rfl) rfl (fun _ => hR) rfl ?_
  refine o_call (args := #[.agg #[.int .i64 p0_0, .slice A10 x10.length c10, .slice A15 x15.length c15, .int .i64 p0_3], .int .i64 u18]) Try.func85 rfl rfl rfl (spec_l10Drop.ok s18 s18 no p0_0 A10 c10 x10 A15 c15 x15 p0_3 u18 (hH.rd 3 rfl) (hH.rd 4 rfl) (Hp.own (Bs.refl s18)) _ hu19) ?_
  rintro _ s19 ⟨A20, c20, A21, c21, A22, c22, rfl, hD⟩
  replace hR := hR.trans hD.gro
  replace hH := hH.back0T hD
  clear hD
  dsimp only [addC, setC, rmC, selC, getC] at hH
  try dsimp only [putL, setL, evL, getL]
  refine HK_readP 9 (v := .agg #[.int .i64 u19.1, .slice A20 u19.2.1.length c20, .slice A21 u19.2.2.1.length c21, .int .i64 u19.2.2.2.1]) rfl (by kernel_rfl) (fun c l s h => hQp c l s h) rfl (fun s' K hK => ?_) rfl rfl (fun _ => hR) ?_
  · refine o_extract rfl rfl ?_
    exact hK
  try dsimp only [putL, setL, evL, getL]
  refine HK_readP 10 (v := .slice A22 u19.2.2.2.2.length c22) rfl (by kernel_rfl) (fun c l s h => hQp c l s h) rfl (fun s' K hK => ?_) rfl rfl (fun _ => hR) ?_
  · refine o_extract rfl rfl ?_
    exact hK
  try dsimp only [putL, setL, evL, getL]
  refine HK_one 11 (by kernel_rfl) rfl (fun _ => hR) rfl ?_
  refine o_stvH (vs := [.int .i64 u19.1, .slice A20 u19.2.1.length c20, .slice A21 u19.2.2.1.length c21, .int .i64 u19.2.2.2.1]) (us' := [.int .i64 u19.1, .slice A20 u19.2.1.length c20, .slice A21 u19.2.2.1.length c21, .int .i64 u19.2.2.2.1]) hH 1 rfl rfl rfl rfl rfl tI31 rfl (List.cons_ne_nil _ _) rfl rfl rfl ?_
  intro s23 hH'
  replace hH : Hp sb s F0 s23 [Ck.ov b2 [.int .i64 p0_0, .slice A0_1p p0_1.length c0_1p, .slice A0_2p p0_2.length c0_2p, .int .i64 p0_3] 31, Ck.ov b3 [.int .i64 u19.1, .slice A20 u19.2.1.length c20, .slice A21 u19.2.2.1.length c21, .int .i64 u19.2.2.2.1] 31, Ck.ov b5 [.int .i64 p0_0, .slice A10 x10.length c10, .slice A15 x15.length c15, .int .i64 p0_3] 31, Ck.ol OI 3 A10 c10 x10, Ck.ol OI 3 A15 c15 x15, Ck.ol OI 3 A20 c20 u19.2.1, Ck.ol OI 3 A21 c21 u19.2.2.1, Ck.ol OI 3 A22 c22 u19.2.2.2.2] := hH'
  clear hH'
  try dsimp only [putL, setL, evL, getL]
  refine HK_one 12 (by kernel_rfl) rfl (fun h => by cases h) rfl ?_
  refine o_assign ?_
  try dsimp only [putL, setL, evL, getL]
  refine HK_done' (by kernel_rfl) (by kernel_rfl) ?_
  refine hK17 _ _ ?_
  refine HT_ret ?_
  obtain rfl := Option.some.inj (show some _ = some r from H)
  exact hQr _ _ [.agg #[.int .i64 u19.1, .slice A20 u19.2.1.length c20, .slice A21 u19.2.2.1.length c21, .int .i64 u19.2.2.2.1], .slice A22 u19.2.2.2.2.length c22] ⟨ResV.cells rfl Try.underlying31 rfl tI31 (hH.var 1 rfl) rfl, rfl, trivial⟩ ⟨A20, c20, A21, c21, A22, c22, rfl, hH.sel [5, 6, 7] (by decide)⟩
def spec_PutBuf.f (p0_0 : Int) (p0_1 : List (Int)) (p0_2 : List (Int)) (p0_3 : Int) (p1 : List (Int)) (p2 : List (Int)) : Option (Int × (List (Int)) × (List (Int)) × Int × (List (Int)) × Bool) := ((spec_GoodBuf.f p0_0 p0_1 p0_2 p0_3).bind fun u32 => if (!u32) = true then (some true) else ((spec_l1AllRunes.f p1).bind fun u34 => if (!u34) = true then (some true) else (if ((p2.length : Int) != (p1.length : Int)) = true then (some true) else ((spec_l1All.f p2 1 1000).bind fun u37 => some (!u37))))).bind fun (o : Bool) => match o with | x31 => (if x31 = true then (some (0, [], [], 0, [], false)) else ((spec_l10Put.f p0_0 p0_1 p0_2 p0_3 p1 p2).bind fun u43 => (spec_GoodBuf.f u43.1 u43.2.1 u43.2.2.1 u43.2.2.2.1).bind fun u51 => if (!u51) = true then (some (0, [], [], 0, [], false)) else (some (u43.1, u43.2.1, u43.2.2.1, u43.2.2.2.1, u43.2.2.2.2, true))))
def spec_PutBuf.post (sb s : St) (F0 : Fp) (r : Int × (List (Int)) × (List (Int)) × Int × (List (Int)) × Bool) : Value → St → Prop := fun v s' => ∃ (A1 : Option Addr) (c1 : Nat) (A2 : Option Addr) (c2 : Nat) (A4 : Option Addr) (c4 : Nat), v = .tuple #[.agg #[.int .i64 r.1, .slice A1 r.2.1.length c1, .slice A2 r.2.2.1.length c2, .int .i64 r.2.2.2.1], .slice A4 r.2.2.2.2.1.length c4, .bool r.2.2.2.2.2] ∧ Hp sb s F0 s' [Ck.ol OI 3 A1 c1 r.2.1, Ck.ol OI 3 A2 c2 r.2.2.1, Ck.ol OI 3 A4 c4 r.2.2.2.2.1]
set_option maxRecDepth 100000 in
set_option maxHeartbeats 4000000 in
theorem spec_PutBuf.ok (sb s : St) (F0 : Fp) (p0_0 : Int) (A0_1p : Option Addr) (c0_1p : Nat) (p0_1 : List (Int)) (A0_2p : Option Addr) (c0_2p : Nat) (p0_2 : List (Int)) (p0_3 : Int) (A1p : Option Addr) (c1p : Nat) (p1 : List (Int)) (A2p : Option Addr) (c2p : Nat) (p2 : List (Int)) (HRp0_1 : Rd KI sb A0_1p c0_1p p0_1) (HRp0_2 : Rd KI sb A0_2p c0_2p p0_2) (HRp1 : Rd KI sb A1p c1p p1) (HRp2 : Rd KI sb A2p c2p p2) (hH : Hp sb s F0 s []) (r : Int × (List (Int)) × (List (Int)) × Int × (List (Int)) × Bool) (H : spec_PutBuf.f p0_0 p0_1 p0_2 p0_3 p1 p2 = some r) : GCall Try.prog 44 #[.agg #[.int .i64 p0_0, .slice A0_1p p0_1.length c0_1p, .slice A0_2p p0_2.length c0_2p, .int .i64 p0_3], .slice A1p p1.length c1p, .slice A2p p2.length c2p] s (spec_PutBuf.post sb s F0 r) := by
  refine GCall_ofk [.cell 6 31, .tmp 7, .tmp 8] [.agg #[.int .i64 p0_0, .slice A0_1p p0_1.length c0_1p, .slice A0_2p p0_2.length c0_2p, .int .i64 p0_3], .slice A1p p1.length c1p, .slice A2p p2.length c2p, undef, undef, undef, undef, undef, undef, undef, undef, undef, undef, undef, undef, undef, undef, undef, undef, undef, undef, undef, undef, undef, undef, undef, undef, undef, undef, undef, undef, undef, undef, undef, undef, undef, undef, undef, undef, undef, undef, undef, undef, undef, undef] Try.func44 rfl rfl rfl ?_
  intro w Q hQr hQn hQp
  replace H := topE H
  unfold spec_PutBuf.f at H
  refine HT_seq_k ?_
  intro K1 hK1
  refine HT_region ?_
  refine HL_cons rfl ?_
  refine o_boxH hH rfl ?_
  intro b2 s2 hH' hG
  replace hH : Hp sb s F0 s2 [Ck.ov b2 [.int .i64 p0_0, .slice A0_1p p0_1.length c0_1p, .slice A0_2p p0_2.length c0_2p, .int .i64 p0_3] 31] := hH'
  clear hH' hG
  try dsimp only [putL, setL, evL, getL]
  refine HL_cons rfl ?_
  refine o_allocH hH tI31 ?_
  intro b3 s3 hH' hG
  replace hH : Hp sb s F0 s3 [Ck.ov b2 [.int .i64 p0_0, .slice A0_1p p0_1.length c0_1p, .slice A0_2p p0_2.length c0_2p, .int .i64 p0_3] 31, Ck.ov b3 [.int .i64 0, .slice none 0 0, .slice none 0 0, .int .i64 0] 31] := hH'
  clear hH' hG
  try dsimp only [putL, setL, evL, getL]
  refine HL_cons rfl ?_
  refine o_assign ?_
  try dsimp only [putL, setL, evL, getL]
  refine HL_cons rfl ?_
  refine o_assign ?_
  try dsimp only [putL, setL, evL, getL]
  refine HL_nil ?_
  refine hK1 _ _ ?_
  refine HT_seq_k ?_
  intro K23 hK23
  refine joinH H fun G24 hG24 H => ?_
  refine HT_joinK (fun l' s' => ∃ (x31 : Bool), G24 x31 = some r ∧ l' = [.agg #[.int .i64 p0_0, .slice A0_1p p0_1.length c0_1p, .slice A0_2p p0_2.length c0_2p, .int .i64 p0_3], .slice A1p p1.length c1p, .slice A2p p2.length c2p, .pointer (some ⟨b2, 0, none⟩), undef, undef, .pointer (some ⟨b3, 0, none⟩), .slice none 0 0, .bool false, undef, undef, getL l' 11, getL l' 12, getL l' 13, getL l' 14, getL l' 15, getL l' 16, getL l' 17, getL l' 18, getL l' 19, getL l' 20, getL l' 21, getL l' 22, getL l' 23, getL l' 24, getL l' 25, getL l' 26, getL l' 27, getL l' 28, getL l' 29, .bool x31, undef, undef, undef, undef, undef, undef, undef, undef, undef, undef, undef, undef, undef, undef] ∧ Hp sb s F0 s' [Ck.ov b2 [.int .i64 p0_0, .slice A0_1p p0_1.length c0_1p, .slice A0_2p p0_2.length c0_2p, .int .i64 p0_3] 31, Ck.ov b3 [.int .i64 0, .slice none 0 0, .slice none 0 0, .int .i64 0] 31]) ?_ ?_
  · intro K24 hK24
    refine HT_region ?_
    refine HL_cons rfl ?_
    refine o_loads' [.int .i64 p0_0, .slice A0_1p p0_1.length c0_1p, .slice A0_2p p0_2.length c0_2p, .int .i64 p0_3] rfl Try.underlying31 rfl tI31 rfl (hH.partv 0 rfl (0) [.int .i64 p0_0, .slice A0_1p p0_1.length c0_1p, .slice A0_2p p0_2.length c0_2p, .int .i64 p0_3] rfl) ?_
    try dsimp only [putL, setL, evL, getL]
    obtain ⟨u32, hu32, H⟩ := headE H
    refine HL_cons rfl ?_
    refine o_call (args := #[.agg #[.int .i64 p0_0, .slice A0_1p p0_1.length c0_1p, .slice A0_2p p0_2.length c0_2p, .int .i64 p0_3]]) Try.func68 rfl rfl rfl (spec_GoodBuf.ok sb s3 no p0_0 A0_1p c0_1p p0_1 A0_2p c0_2p p0_2 p0_3 HRp0_1 HRp0_2 (Hp.own hH.bs) _ hu32) ?_
    rintro _ s32 ⟨rfl, hD⟩
    replace hH := hH.back0 hD (Up.refl _ _ _)
    clear hD
    dsimp only [addC, setC, rmC, selC, getC] at hH
    try dsimp only [putL, setL, evL, getL]
    refine HL_cons rfl ?_
    refine o_not rfl ?_
    try dsimp only [putL, setL, evL, getL]
    refine HL_cons rfl ?_
    refine o_move ?_
    try dsimp only [putL, setL, evL, getL]
    rcases Bool.eq_false_or_eq_true (!u32) with hb33 | hb33
    · replace H := iteT hb33 H
      refine HL_skip ?_ ?_
      · exact wantF (j := 3) (b := false) (t := 14) (c := !u32) rfl rfl rfl rfl hb33
      try dsimp only [putL, setL, evL, getL]
      refine HL_skip ?_ ?_
      · exact wantF (j := 3) (b := false) (t := 14) (c := !u32) rfl rfl rfl rfl hb33
      try dsimp only [putL, setL, evL, getL]
      refine HL_skip ?_ ?_
      · exact wantF (j := 3) (b := false) (t := 14) (c := !u32) rfl rfl rfl rfl hb33
      try dsimp only [putL, setL, evL, getL]
      refine HL_cons rfl ?_
      refine o_pickT rfl hb33 ?_
      try dsimp only [putL, setL, evL, getL]
      refine HL_cons rfl ?_
      refine o_move ?_
      try dsimp only [putL, setL, evL, getL]
      refine HL_skip ?_ ?_
      · exact wantF (j := 8) (b := false) (t := 19) (c := true) rfl rfl rfl rfl rfl
      try dsimp only [putL, setL, evL, getL]
      refine HL_skip ?_ ?_
      · exact wantF (j := 8) (b := false) (t := 19) (c := true) rfl rfl rfl rfl rfl
      try dsimp only [putL, setL, evL, getL]
      refine HL_skip ?_ ?_
      · exact wantF (j := 8) (b := false) (t := 19) (c := true) rfl rfl rfl rfl rfl
      try dsimp only [putL, setL, evL, getL]
      refine HL_skip ?_ ?_
      · exact wantF (j := 8) (b := false) (t := 19) (c := true) rfl rfl rfl rfl rfl
      try dsimp only [putL, setL, evL, getL]
      refine HL_skip ?_ ?_
      · exact wantF (j := 8) (b := false) (t := 19) (c := true) rfl rfl rfl rfl rfl
      try dsimp only [putL, setL, evL, getL]
      refine HL_cons rfl ?_
      refine o_pickT rfl rfl ?_
      try dsimp only [putL, setL, evL, getL]
      refine HL_cons rfl ?_
      refine o_move ?_
      try dsimp only [putL, setL, evL, getL]
      refine HL_skip ?_ ?_
      · exact wantF (j := 15) (b := false) (t := 26) (c := true) rfl rfl rfl rfl rfl
      try dsimp only [putL, setL, evL, getL]
      refine HL_skip ?_ ?_
      · exact wantF (j := 15) (b := false) (t := 26) (c := true) rfl rfl rfl rfl rfl
      try dsimp only [putL, setL, evL, getL]
      refine HL_skip ?_ ?_
      · exact wantF (j := 15) (b := false) (t := 26) (c := true) rfl rfl rfl rfl rfl
      try dsimp only [putL, setL, evL, getL]
      refine HL_cons rfl ?_
      refine o_pickT rfl rfl ?_
      try dsimp only [putL, setL, evL, getL]
      refine HL_nil ?_
      exact hK24 _ _ ⟨true, H, rfl, hH⟩
    · replace H := iteF hb33 H
      refine HL_want ?_ ?_
      · exact wantT (j := 3) (b := false) (t := 14) (c := !u32) rfl rfl rfl rfl hb33
      refine o_move ?_
      try dsimp only [putL, setL, evL, getL]
      obtain ⟨u34, hu34, H⟩ := headE H
      refine HL_want ?_ ?_
      · exact wantT (j := 3) (b := false) (t := 14) (c := !u32) rfl rfl rfl rfl hb33
      refine o_call (args := #[.slice A1p p1.length c1p]) Try.func107 rfl rfl rfl (spec_l1AllRunes.ok sb s32 no A1p c1p p1 HRp1 (Hp.own hH.bs) _ hu34) ?_
      rintro _ s34 ⟨rfl, hD⟩
      replace hH := hH.back0 hD (Up.refl _ _ _)
      clear hD
      dsimp only [addC, setC, rmC, selC, getC] at hH
      try dsimp only [putL, setL, evL, getL]
      refine HL_want ?_ ?_
      · exact wantT (j := 3) (b := false) (t := 14) (c := !u32) rfl rfl rfl rfl hb33
      refine o_not rfl ?_
      try dsimp only [putL, setL, evL, getL]
      refine HL_cons rfl ?_
      refine o_pickF rfl hb33 ?_
      try dsimp only [putL, setL, evL, getL]
      refine HL_cons rfl ?_
      refine o_move ?_
      try dsimp only [putL, setL, evL, getL]
      rcases Bool.eq_false_or_eq_true (!u34) with hb35 | hb35
      · replace H := iteT hb35 H
        refine HL_skip ?_ ?_
        · exact wantF (j := 8) (b := false) (t := 19) (c := !u34) rfl rfl rfl rfl hb35
        try dsimp only [putL, setL, evL, getL]
        refine HL_skip ?_ ?_
        · exact wantF (j := 8) (b := false) (t := 19) (c := !u34) rfl rfl rfl rfl hb35
        try dsimp only [putL, setL, evL, getL]
        refine HL_skip ?_ ?_
        · exact wantF (j := 8) (b := false) (t := 19) (c := !u34) rfl rfl rfl rfl hb35
        try dsimp only [putL, setL, evL, getL]
        refine HL_skip ?_ ?_
        · exact wantF (j := 8) (b := false) (t := 19) (c := !u34) rfl rfl rfl rfl hb35
        try dsimp only [putL, setL, evL, getL]
        refine HL_skip ?_ ?_
        · exact wantF (j := 8) (b := false) (t := 19) (c := !u34) rfl rfl rfl rfl hb35
        try dsimp only [putL, setL, evL, getL]
        refine HL_cons rfl ?_
        refine o_pickT rfl hb35 ?_
        try dsimp only [putL, setL, evL, getL]
        refine HL_cons rfl ?_
        refine o_move ?_
        try dsimp only [putL, setL, evL, getL]
        refine HL_skip ?_ ?_
        · exact wantF (j := 15) (b := false) (t := 26) (c := true) rfl rfl rfl rfl rfl
        try dsimp only [putL, setL, evL, getL]
        refine HL_skip ?_ ?_
        · exact wantF (j := 15) (b := false) (t := 26) (c := true) rfl rfl rfl rfl rfl
        try dsimp only [putL, setL, evL, getL]
        refine HL_skip ?_ ?_
        · exact wantF (j := 15) (b := false) (t := 26) (c := true) rfl rfl rfl rfl rfl
        try dsimp only [putL, setL, evL, getL]
        refine HL_cons rfl ?_
        refine o_pickT rfl rfl ?_
        try dsimp only [putL, setL, evL, getL]
        refine HL_nil ?_
        exact hK24 _ _ ⟨true, H, rfl, hH⟩
      · replace H := iteF hb35 H
        refine HL_want ?_ ?_
        · exact wantT (j := 8) (b := false) (t := 19) (c := !u34) rfl rfl rfl rfl hb35
        refine o_move ?_
        try dsimp only [putL, setL, evL, getL]
        refine HL_want ?_ ?_
        · exact wantT (j := 8) (b := false) (t := 19) (c := !u34) rfl rfl rfl rfl hb35
        refine o_len rfl Try.underlying22 ?_
        try dsimp only [putL, setL, evL, getL]
        refine HL_want ?_ ?_
        · exact wantT (j := 8) (b := false) (t := 19) (c := !u34) rfl rfl rfl rfl hb35
        refine o_move ?_
        try dsimp only [putL, setL, evL, getL]
        refine HL_want ?_ ?_
        · exact wantT (j := 8) (b := false) (t := 19) (c := !u34) rfl rfl rfl rfl hb35
        refine o_len rfl Try.underlying22 ?_
        try dsimp only [putL, setL, evL, getL]
        refine HL_want ?_ ?_
        · exact wantT (j := 8) (b := false) (t := 19) (c := !u34) rfl rfl rfl rfl hb35
        refine o_bin rfl rfl rfl ?_
        try dsimp only [putL, setL, evL, getL]
        refine HL_cons rfl ?_
        refine o_pickF rfl hb35 ?_
        try dsimp only [putL, setL, evL, getL]
        refine HL_cons rfl ?_
        refine o_move ?_
        try dsimp only [putL, setL, evL, getL]
        rcases Bool.eq_false_or_eq_true ((p2.length : Int) != (p1.length : Int)) with hb36 | hb36
        · replace H := iteT hb36 H
          refine HL_skip ?_ ?_
          · exact wantF (j := 15) (b := false) (t := 26) (c := (p2.length : Int) != (p1.length : Int)) rfl rfl rfl rfl hb36
          try dsimp only [putL, setL, evL, getL]
          refine HL_skip ?_ ?_
          · exact wantF (j := 15) (b := false) (t := 26) (c := (p2.length : Int) != (p1.length : Int)) rfl rfl rfl rfl hb36
          try dsimp only [putL, setL, evL, getL]
          refine HL_skip ?_ ?_
          · exact wantF (j := 15) (b := false) (t := 26) (c := (p2.length : Int) != (p1.length : Int)) rfl rfl rfl rfl hb36
          try dsimp only [putL, setL, evL, getL]
          refine HL_cons rfl ?_
          refine o_pickT rfl hb36 ?_
          try dsimp only [putL, setL, evL, getL]
          refine HL_nil ?_
          exact hK24 _ _ ⟨true, H, rfl, hH⟩
        · replace H := iteF hb36 H
          refine HL_want ?_ ?_
          · exact wantT (j := 15) (b := false) (t := 26) (c := (p2.length : Int) != (p1.length : Int)) rfl rfl rfl rfl hb36
          refine o_move ?_
          try dsimp only [putL, setL, evL, getL]
          obtain ⟨u37, hu37, H⟩ := headE H
          refine HL_want ?_ ?_
          · exact wantT (j := 15) (b := false) (t := 26) (c := (p2.length : Int) != (p1.length : Int)) rfl rfl rfl rfl hb36
          refine o_call (args := #[.slice A2p p2.length c2p, .int .i64 1, .int .i64 1000]) Try.func108 rfl rfl rfl (spec_l1All.ok sb s34 no A2p c2p p2 1 1000 HRp2 (Hp.own hH.bs) _ hu37) ?_
          rintro _ s37 ⟨rfl, hD⟩
          replace hH := hH.back0 hD (Up.refl _ _ _)
          clear hD
          dsimp only [addC, setC, rmC, selC, getC] at hH
          try dsimp only [putL, setL, evL, getL]
          refine HL_want ?_ ?_
          · exact wantT (j := 15) (b := false) (t := 26) (c := (p2.length : Int) != (p1.length : Int)) rfl rfl rfl rfl hb36
          refine o_not rfl ?_
          try dsimp only [putL, setL, evL, getL]
          refine HL_cons rfl ?_
          refine o_pickF rfl hb36 ?_
          try dsimp only [putL, setL, evL, getL]
          refine HL_nil ?_
          exact hK24 _ _ ⟨!u37, H, rfl, hH⟩
  · rintro l' s38 ⟨x31, H, hl, hH⟩
    generalize getL l' 11 = j11, getL l' 12 = j12, getL l' 13 = j13, getL l' 14 = j14, getL l' 15 = j15, getL l' 16 = j16, getL l' 17 = j17, getL l' 18 = j18, getL l' 19 = j19, getL l' 20 = j20, getL l' 21 = j21, getL l' 22 = j22, getL l' 23 = j23, getL l' 24 = j24, getL l' 25 = j25, getL l' 26 = j26, getL l' 27 = j27, getL l' 28 = j28, getL l' 29 = j29 at hl
    subst hl
    replace H := hG24 _ H
    try dsimp only at H
    rcases Bool.eq_false_or_eq_true x31 with hb39 | hb39
    · replace H := iteT hb39 H
      refine HT_true (congrArg Value.bool hb39) ?_
      refine HT_seq_k ?_
      intro K40 hK40
      refine HT_region ?_
      refine HL_cons rfl ?_
      refine o_build (pl := [(0, 1), (1, 1), (2, 1), (3, 1)]) (cs := #[.int .i64 0, .slice none 0 0, .slice none 0 0, .int .i64 0]) Try.underlying31 tI31 (by kernel_rfl) (by kernel_rfl) rfl ?_
      try dsimp only [putL, setL, evL, getL]
      refine HL_cons rfl ?_
      refine o_stvH (vs := [.int .i64 0, .slice none 0 0, .slice none 0 0, .int .i64 0]) (us' := [.int .i64 0, .slice none 0 0, .slice none 0 0, .int .i64 0]) hH 1 rfl rfl rfl rfl rfl tI31 rfl (List.cons_ne_nil _ _) rfl rfl rfl ?_
      intro s41 hH'
      replace hH : Hp sb s F0 s41 [Ck.ov b2 [.int .i64 p0_0, .slice A0_1p p0_1.length c0_1p, .slice A0_2p p0_2.length c0_2p, .int .i64 p0_3] 31, Ck.ov b3 [.int .i64 0, .slice none 0 0, .slice none 0 0, .int .i64 0] 31] := hH'
      clear hH'
      try dsimp only [putL, setL, evL, getL]
      refine HL_cons rfl ?_
      refine o_assign ?_
      try dsimp only [putL, setL, evL, getL]
      refine HL_cons rfl ?_
      refine o_assign ?_
      try dsimp only [putL, setL, evL, getL]
      refine HL_nil ?_
      refine hK40 _ _ ?_
      refine HT_ret ?_
      obtain rfl := Option.some.inj (show some _ = some r from H)
      exact hQr _ _ [.agg #[.int .i64 0, .slice none 0 0, .slice none 0 0, .int .i64 0], .slice none 0 0, .bool false] ⟨ResV.cells rfl Try.underlying31 rfl tI31 (hH.var 1 rfl) rfl, rfl, rfl, trivial⟩ ⟨none, 0, none, 0, none, 0, rfl, (((hH.nil (K := KI) OI 3).nil (K := KI) OI 3).nil (K := KI) OI 3).sel [2, 3, 4] (by decide)⟩
    · replace H := iteF hb39 H
      refine HT_false (congrArg Value.bool hb39) ?_
      refine HT_skip ?_
      refine hK23 _ _ ?_
      refine HT_seq_k ?_
      intro K42 hK42
      refine HT_region ?_
      refine HL_cons rfl ?_
      refine o_loads' [.int .i64 p0_0, .slice A0_1p p0_1.length c0_1p, .slice A0_2p p0_2.length c0_2p, .int .i64 p0_3] rfl Try.underlying31 rfl tI31 rfl (hH.partv 0 rfl (0) [.int .i64 p0_0, .slice A0_1p p0_1.length c0_1p, .slice A0_2p p0_2.length c0_2p, .int .i64 p0_3] rfl) ?_
      try dsimp only [putL, setL, evL, getL]
      refine HL_cons rfl ?_
      refine o_move ?_
      try dsimp only [putL, setL, evL, getL]
      refine HL_cons rfl ?_
      refine o_move ?_
      try dsimp only [putL, setL, evL, getL]
      obtain ⟨u43, hu43, H⟩ := headE H
      refine HL_cons rfl ?_
      refine o_call (args := #[.agg #[.int .i64 p0_0, .slice A0_1p p0_1.length c0_1p, .slice A0_2p p0_2.length c0_2p, .int .i64 p0_3], .slice A1p p1.length c1p, .slice A2p p2.length c2p]) Try.func109 rfl rfl rfl (spec_l10Put.ok sb s38 no p0_0 A0_1p c0_1p p0_1 A0_2p c0_2p p0_2 p0_3 A1p c1p p1 A2p c2p p2 HRp0_1 HRp0_2 HRp1 HRp2 (Hp.own hH.bs) _ hu43) ?_
      rintro _ s43 ⟨A44, c44, A45, c45, A46, c46, rfl, hD⟩
      replace hH := hH.back0 hD (Up.refl _ _ _)
      clear hD
      dsimp only [addC, setC, rmC, selC, getC] at hH
      try dsimp only [putL, setL, evL, getL]
      refine HL_cons rfl ?_
      refine o_move ?_
      try dsimp only [putL, setL, evL, getL]
      refine HL_cons rfl ?_
      refine o_extract rfl rfl ?_
      try dsimp only [putL, setL, evL, getL]
      refine HL_cons rfl ?_
      refine o_extract rfl rfl ?_
      try dsimp only [putL, setL, evL, getL]
      refine HL_cons rfl ?_
      refine o_allocH hH tI31 ?_
      intro b47 s47 hH' hG
      replace hH : Hp sb s F0 s47 [Ck.ov b2 [.int .i64 p0_0, .slice A0_1p p0_1.length c0_1p, .slice A0_2p p0_2.length c0_2p, .int .i64 p0_3] 31, Ck.ov b3 [.int .i64 0, .slice none 0 0, .slice none 0 0, .int .i64 0] 31, Ck.ol OI 3 A44 c44 u43.2.1, Ck.ol OI 3 A45 c45 u43.2.2.1, Ck.ol OI 3 A46 c46 u43.2.2.2.2, Ck.ov b47 [.int .i64 0, .slice none 0 0, .slice none 0 0, .int .i64 0] 31] := hH'
      clear hH' hG
      try dsimp only [putL, setL, evL, getL]
      refine HL_cons rfl ?_
      refine o_stvH (vs := [.int .i64 u43.1, .slice A44 u43.2.1.length c44, .slice A45 u43.2.2.1.length c45, .int .i64 u43.2.2.2.1]) (us' := [.int .i64 u43.1, .slice A44 u43.2.1.length c44, .slice A45 u43.2.2.1.length c45, .int .i64 u43.2.2.2.1]) hH 5 rfl rfl rfl rfl rfl tI31 rfl (List.cons_ne_nil _ _) rfl rfl rfl ?_
      intro s48 hH'
      replace hH : Hp sb s F0 s48 [Ck.ov b2 [.int .i64 p0_0, .slice A0_1p p0_1.length c0_1p, .slice A0_2p p0_2.length c0_2p, .int .i64 p0_3] 31, Ck.ov b3 [.int .i64 0, .slice none 0 0, .slice none 0 0, .int .i64 0] 31, Ck.ol OI 3 A44 c44 u43.2.1, Ck.ol OI 3 A45 c45 u43.2.2.1, Ck.ol OI 3 A46 c46 u43.2.2.2.2, Ck.ov b47 [.int .i64 u43.1, .slice A44 u43.2.1.length c44, .slice A45 u43.2.2.1.length c45, .int .i64 u43.2.2.2.1] 31] := hH'
      clear hH'
      try dsimp only [putL, setL, evL, getL]
      refine HL_cons rfl ?_
      refine o_assign ?_
      try dsimp only [putL, setL, evL, getL]
      refine HL_nil ?_
      refine hK42 _ _ ?_
      refine HT_seq_k ?_
      intro K49 hK49
      refine HT_seq_k ?_
      intro K50 hK50
      refine HT_region ?_
      refine HL_cons rfl ?_
      refine o_loads' [.int .i64 u43.1, .slice A44 u43.2.1.length c44, .slice A45 u43.2.2.1.length c45, .int .i64 u43.2.2.2.1] rfl Try.underlying31 rfl tI31 rfl (hH.partv 5 rfl (0) [.int .i64 u43.1, .slice A44 u43.2.1.length c44, .slice A45 u43.2.2.1.length c45, .int .i64 u43.2.2.2.1] rfl) ?_
      try dsimp only [putL, setL, evL, getL]
      obtain ⟨u51, hu51, H⟩ := headE H
      refine HL_cons rfl ?_
      refine o_call (args := #[.agg #[.int .i64 u43.1, .slice A44 u43.2.1.length c44, .slice A45 u43.2.2.1.length c45, .int .i64 u43.2.2.2.1]]) Try.func68 rfl rfl rfl (spec_GoodBuf.ok s48 s48 no u43.1 A44 c44 u43.2.1 A45 c45 u43.2.2.1 u43.2.2.2.1 (hH.rd 2 rfl) (hH.rd 3 rfl) (Hp.own (Bs.refl s48)) _ hu51) ?_
      rintro _ s51 ⟨rfl, hD⟩
      replace hH := hH.back0T hD
      clear hD
      dsimp only [addC, setC, rmC, selC, getC] at hH
      try dsimp only [putL, setL, evL, getL]
      refine HL_cons rfl ?_
      refine o_not rfl ?_
      try dsimp only [putL, setL, evL, getL]
      refine HL_nil ?_
      refine hK50 _ _ ?_
      rcases Bool.eq_false_or_eq_true (!u51) with hb52 | hb52
      · replace H := iteT hb52 H
        refine HT_true (congrArg Value.bool hb52) ?_
        refine HT_seq_k ?_
        intro K53 hK53
        refine HT_region ?_
        refine HL_cons rfl ?_
        refine o_build (pl := [(0, 1), (1, 1), (2, 1), (3, 1)]) (cs := #[.int .i64 0, .slice none 0 0, .slice none 0 0, .int .i64 0]) Try.underlying31 tI31 (by kernel_rfl) (by kernel_rfl) rfl ?_
        try dsimp only [putL, setL, evL, getL]
        refine HL_cons rfl ?_
        refine o_stvH (vs := [.int .i64 0, .slice none 0 0, .slice none 0 0, .int .i64 0]) (us' := [.int .i64 0, .slice none 0 0, .slice none 0 0, .int .i64 0]) hH 1 rfl rfl rfl rfl rfl tI31 rfl (List.cons_ne_nil _ _) rfl rfl rfl ?_
        intro s54 hH'
        replace hH : Hp sb s F0 s54 [Ck.ov b2 [.int .i64 p0_0, .slice A0_1p p0_1.length c0_1p, .slice A0_2p p0_2.length c0_2p, .int .i64 p0_3] 31, Ck.ov b3 [.int .i64 0, .slice none 0 0, .slice none 0 0, .int .i64 0] 31, Ck.ol OI 3 A44 c44 u43.2.1, Ck.ol OI 3 A45 c45 u43.2.2.1, Ck.ol OI 3 A46 c46 u43.2.2.2.2, Ck.ov b47 [.int .i64 u43.1, .slice A44 u43.2.1.length c44, .slice A45 u43.2.2.1.length c45, .int .i64 u43.2.2.2.1] 31] := hH'
        clear hH'
        try dsimp only [putL, setL, evL, getL]
        refine HL_cons rfl ?_
        refine o_assign ?_
        try dsimp only [putL, setL, evL, getL]
        refine HL_cons rfl ?_
        refine o_assign ?_
        try dsimp only [putL, setL, evL, getL]
        refine HL_nil ?_
        refine hK53 _ _ ?_
        refine HT_ret ?_
        obtain rfl := Option.some.inj (show some _ = some r from H)
        exact hQr _ _ [.agg #[.int .i64 0, .slice none 0 0, .slice none 0 0, .int .i64 0], .slice none 0 0, .bool false] ⟨ResV.cells rfl Try.underlying31 rfl tI31 (hH.var 1 rfl) rfl, rfl, rfl, trivial⟩ ⟨none, 0, none, 0, none, 0, rfl, (((hH.nil (K := KI) OI 3).nil (K := KI) OI 3).nil (K := KI) OI 3).sel [6, 7, 8] (by decide)⟩
      · replace H := iteF hb52 H
        refine HT_false (congrArg Value.bool hb52) ?_
        refine HT_skip ?_
        refine hK49 _ _ ?_
        refine HT_seq_k ?_
        intro K55 hK55
        refine HT_region ?_
        refine HL_cons rfl ?_
        refine o_loads' [.int .i64 u43.1, .slice A44 u43.2.1.length c44, .slice A45 u43.2.2.1.length c45, .int .i64 u43.2.2.2.1] rfl Try.underlying31 rfl tI31 rfl (hH.partv 5 rfl (0) [.int .i64 u43.1, .slice A44 u43.2.1.length c44, .slice A45 u43.2.2.1.length c45, .int .i64 u43.2.2.2.1] rfl) ?_
        try dsimp only [putL, setL, evL, getL]
        refine HL_cons rfl ?_
        refine o_move ?_
        try dsimp only [putL, setL, evL, getL]
        refine HL_cons rfl ?_
        refine o_stvH (vs := [.int .i64 u43.1, .slice A44 u43.2.1.length c44, .slice A45 u43.2.2.1.length c45, .int .i64 u43.2.2.2.1]) (us' := [.int .i64 u43.1, .slice A44 u43.2.1.length c44, .slice A45 u43.2.2.1.length c45, .int .i64 u43.2.2.2.1]) hH 1 rfl rfl rfl rfl rfl tI31 rfl (List.cons_ne_nil _ _) rfl rfl rfl ?_
        intro s56 hH'
        replace hH : Hp sb s F0 s56 [Ck.ov b2 [.int .i64 p0_0, .slice A0_1p p0_1.length c0_1p, .slice A0_2p p0_2.length c0_2p, .int .i64 p0_3] 31, Ck.ov b3 [.int .i64 u43.1, .slice A44 u43.2.1.length c44, .slice A45 u43.2.2.1.length c45, .int .i64 u43.2.2.2.1] 31, Ck.ol OI 3 A44 c44 u43.2.1, Ck.ol OI 3 A45 c45 u43.2.2.1, Ck.ol OI 3 A46 c46 u43.2.2.2.2, Ck.ov b47 [.int .i64 u43.1, .slice A44 u43.2.1.length c44, .slice A45 u43.2.2.1.length c45, .int .i64 u43.2.2.2.1] 31] := hH'
        clear hH'
        try dsimp only [putL, setL, evL, getL]
        refine HL_cons rfl ?_
        refine o_assign ?_
        try dsimp only [putL, setL, evL, getL]
        refine HL_cons rfl ?_
        refine o_assign ?_
        try dsimp only [putL, setL, evL, getL]
        refine HL_nil ?_
        refine hK55 _ _ ?_
        refine HT_ret ?_
        obtain rfl := Option.some.inj (show some _ = some r from H)
        exact hQr _ _ [.agg #[.int .i64 u43.1, .slice A44 u43.2.1.length c44, .slice A45 u43.2.2.1.length c45, .int .i64 u43.2.2.2.1], .slice A46 u43.2.2.2.2.length c46, .bool true] ⟨ResV.cells rfl Try.underlying31 rfl tI31 (hH.var 1 rfl) rfl, rfl, rfl, trivial⟩ ⟨A44, c44, A45, c45, A46, c46, rfl, hH.sel [2, 3, 4] (by decide)⟩
def impl_inRange.f (p0 : Int) (p1 : Int) (p2 : Int) : Option Bool := if (decide (p1 ≤ p0)) = true then (some (decide (p0 ≤ p2))) else (some false)
def impl_inRange.post (sb s : St) (F0 : Fp) (r : Bool) : Value → St → Prop := fun v s' => v = .bool r ∧ Hp sb s F0 s' []
set_option maxRecDepth 100000 in
set_option maxHeartbeats 4000000 in
theorem impl_inRange.ok (sb s : St) (F0 : Fp) (p0 : Int) (p1 : Int) (p2 : Int) (hH : Hp sb s F0 s []) (r : Bool) (H : impl_inRange.f p0 p1 p2 = some r) : GCall Try.prog 86 #[.int .i64 p0, .int .i64 p1, .int .i64 p2] s (impl_inRange.post sb s F0 r) := by
  refine GCall_ofk [.tmp 6] [.int .i64 p0, .int .i64 p1, .int .i64 p2, undef, undef, undef, undef, undef, undef, undef, undef, undef, undef, undef, undef] Try.func86 rfl rfl rfl ?_
  intro w Q hQr hQn hQp
  replace H := topE H
  unfold impl_inRange.f at H
  refine HT_seq_k ?_
  intro K1 hK1
  refine HT_region ?_
  refine HL_cons rfl ?_
  refine o_assign ?_
  try dsimp only [putL, setL, evL, getL]
  refine HL_nil ?_
  refine hK1 _ _ ?_
  refine HT_seq_k ?_
  intro K2 hK2
  refine HT_region ?_
  refine HL_cons rfl ?_
  refine o_move ?_
  try dsimp only [putL, setL, evL, getL]
  refine HL_cons rfl ?_
  refine o_move ?_
  try dsimp only [putL, setL, evL, getL]
  refine HL_cons rfl ?_
  refine o_bin rfl rfl rfl ?_
  try dsimp only [putL, setL, evL, getL]
  refine HL_cons rfl ?_
  refine o_move ?_
  try dsimp only [putL, setL, evL, getL]
  rcases Bool.eq_false_or_eq_true (decide (p1 ≤ p0)) with hb3 | hb3
  · replace H := iteT hb3 H
    refine HL_want ?_ ?_
    · exact wantT (j := 3) (b := true) (t := 10) (c := decide (p1 ≤ p0)) rfl rfl rfl rfl hb3
    refine o_move ?_
    try dsimp only [putL, setL, evL, getL]
    refine HL_want ?_ ?_
    · exact wantT (j := 3) (b := true) (t := 10) (c := decide (p1 ≤ p0)) rfl rfl rfl rfl hb3
    refine o_move ?_
    try dsimp only [putL, setL, evL, getL]
    refine HL_want ?_ ?_
    · exact wantT (j := 3) (b := true) (t := 10) (c := decide (p1 ≤ p0)) rfl rfl rfl rfl hb3
    refine o_bin rfl rfl rfl ?_
    try dsimp only [putL, setL, evL, getL]
    refine HL_cons rfl ?_
    refine o_pickT rfl hb3 ?_
    try dsimp only [putL, setL, evL, getL]
    refine HL_cons rfl ?_
    refine o_assign ?_
    try dsimp only [putL, setL, evL, getL]
    refine HL_nil ?_
    refine hK2 _ _ ?_
    refine HT_ret ?_
    obtain rfl := Option.some.inj (show some _ = some r from H)
    exact hQr _ _ [.bool (decide (p0 ≤ p2))] ⟨rfl, trivial⟩ ⟨rfl, hH⟩
  · replace H := iteF hb3 H
    refine HL_skip ?_ ?_
    · exact wantF (j := 3) (b := true) (t := 10) (c := decide (p1 ≤ p0)) rfl rfl rfl rfl hb3
    try dsimp only [putL, setL, evL, getL]
    refine HL_skip ?_ ?_
    · exact wantF (j := 3) (b := true) (t := 10) (c := decide (p1 ≤ p0)) rfl rfl rfl rfl hb3
    try dsimp only [putL, setL, evL, getL]
    refine HL_skip ?_ ?_
    · exact wantF (j := 3) (b := true) (t := 10) (c := decide (p1 ≤ p0)) rfl rfl rfl rfl hb3
    try dsimp only [putL, setL, evL, getL]
    refine HL_cons rfl ?_
    refine o_pickF rfl hb3 ?_
    try dsimp only [putL, setL, evL, getL]
    refine HL_cons rfl ?_
    refine o_assign ?_
    try dsimp only [putL, setL, evL, getL]
    refine HL_nil ?_
    refine hK2 _ _ ?_
    refine HT_ret ?_
    obtain rfl := Option.some.inj (show some _ = some r from H)
    exact hQr _ _ [.bool false] ⟨rfl, trivial⟩ ⟨rfl, hH⟩
def impl_GoodRune.f (p0 : Int) : Option Bool := (impl_inRange.f p0 0 1114111).bind fun u3 => if u3 = true then ((impl_inRange.f p0 55296 57343).bind fun u5 => some (!u5)) else (some false)
def impl_GoodRune.post (sb s : St) (F0 : Fp) (r : Bool) : Value → St → Prop := fun v s' => v = .bool r ∧ Hp sb s F0 s' []
set_option maxRecDepth 100000 in
set_option maxHeartbeats 4000000 in
theorem impl_GoodRune.ok (sb s : St) (F0 : Fp) (p0 : Int) (hH : Hp sb s F0 s []) (r : Bool) (H : impl_GoodRune.f p0 = some r) : GCall Try.prog 147 #[.int .i64 p0] s (impl_GoodRune.post sb s F0 r) := by
  refine GCall_ofk [.tmp 2] [.int .i64 p0, undef, undef, undef, undef, undef, undef, undef, undef, undef] Try.func147 rfl rfl rfl ?_
  intro w Q hQr hQn hQp
  replace H := topE H
  unfold impl_GoodRune.f at H
  refine HT_seq_k ?_
  intro K1 hK1
  refine HT_region ?_
  refine HL_cons rfl ?_
  refine o_assign ?_
  try dsimp only [putL, setL, evL, getL]
  refine HL_nil ?_
  refine hK1 _ _ ?_
  refine HT_seq_k ?_
  intro K2 hK2
  refine HT_region ?_
  refine HL_cons rfl ?_
  refine o_move ?_
  try dsimp only [putL, setL, evL, getL]
  obtain ⟨u3, hu3, H⟩ := headE H
  refine HL_cons rfl ?_
  refine o_call (args := #[.int .i64 p0, .int .i64 0, .int .i64 1114111]) Try.func86 rfl rfl rfl (impl_inRange.ok sb s no p0 0 1114111 (Hp.own hH.bs) _ hu3) ?_
  rintro _ s3 ⟨rfl, hD⟩
  replace hH := hH.back0 hD (Up.refl _ _ _)
  clear hD
  dsimp only [addC, setC, rmC, selC, getC] at hH
  try dsimp only [putL, setL, evL, getL]
  refine HL_cons rfl ?_
  refine o_move ?_
  try dsimp only [putL, setL, evL, getL]
  rcases Bool.eq_false_or_eq_true u3 with hb4 | hb4
  · replace H := iteT hb4 H
    refine HL_want ?_ ?_
    · exact wantT (j := 2) (b := true) (t := 5) (c := u3) rfl rfl rfl rfl hb4
    refine o_move ?_
    try dsimp only [putL, setL, evL, getL]
    obtain ⟨u5, hu5, H⟩ := headE H
    refine HL_want ?_ ?_
    · exact wantT (j := 2) (b := true) (t := 5) (c := u3) rfl rfl rfl rfl hb4
    refine o_call (args := #[.int .i64 p0, .int .i64 55296, .int .i64 57343]) Try.func86 rfl rfl rfl (impl_inRange.ok sb s3 no p0 55296 57343 (Hp.own hH.bs) _ hu5) ?_
    rintro _ s5 ⟨rfl, hD⟩
    replace hH := hH.back0 hD (Up.refl _ _ _)
    clear hD
    dsimp only [addC, setC, rmC, selC, getC] at hH
    try dsimp only [putL, setL, evL, getL]
    refine HL_want ?_ ?_
    · exact wantT (j := 2) (b := true) (t := 5) (c := u3) rfl rfl rfl rfl hb4
    refine o_not rfl ?_
    try dsimp only [putL, setL, evL, getL]
    refine HL_cons rfl ?_
    refine o_pickT rfl hb4 ?_
    try dsimp only [putL, setL, evL, getL]
    refine HL_cons rfl ?_
    refine o_assign ?_
    try dsimp only [putL, setL, evL, getL]
    refine HL_nil ?_
    refine hK2 _ _ ?_
    refine HT_ret ?_
    obtain rfl := Option.some.inj (show some _ = some r from H)
    exact hQr _ _ [.bool (!u5)] ⟨rfl, trivial⟩ ⟨rfl, hH⟩
  · replace H := iteF hb4 H
    refine HL_skip ?_ ?_
    · exact wantF (j := 2) (b := true) (t := 5) (c := u3) rfl rfl rfl rfl hb4
    try dsimp only [putL, setL, evL, getL]
    refine HL_skip ?_ ?_
    · exact wantF (j := 2) (b := true) (t := 5) (c := u3) rfl rfl rfl rfl hb4
    try dsimp only [putL, setL, evL, getL]
    refine HL_skip ?_ ?_
    · exact wantF (j := 2) (b := true) (t := 5) (c := u3) rfl rfl rfl rfl hb4
    try dsimp only [putL, setL, evL, getL]
    refine HL_cons rfl ?_
    refine o_pickF rfl hb4 ?_
    try dsimp only [putL, setL, evL, getL]
    refine HL_cons rfl ?_
    refine o_assign ?_
    try dsimp only [putL, setL, evL, getL]
    refine HL_nil ?_
    refine hK2 _ _ ?_
    refine HT_ret ?_
    obtain rfl := Option.some.inj (show some _ = some r from H)
    exact hQr _ _ [.bool false] ⟨rfl, trivial⟩ ⟨rfl, hH⟩
def impl_areRunes_1.f (p0 : Int) : Option Bool := (impl_GoodRune.f p0).bind fun u3 => some (!u3)
def impl_areRunes_1.post (sb s : St) (F0 : Fp) (r : Bool) : Value → St → Prop := fun v s' => v = .bool r ∧ Hp sb s F0 s' []
set_option maxRecDepth 100000 in
set_option maxHeartbeats 4000000 in
theorem impl_areRunes_1.ok (sb s : St) (F0 : Fp) (p0 : Int) (hH : Hp sb s F0 s []) (r : Bool) (H : impl_areRunes_1.f p0 = some r) : GCall Try.prog 153 #[.int .i64 p0] s (impl_areRunes_1.post sb s F0 r) := by
  refine GCall_ofk [.tmp 2] [.int .i64 p0, undef, undef, undef, undef, undef] Try.func153 rfl rfl rfl ?_
  intro w Q hQr hQn hQp
  replace H := topE H
  unfold impl_areRunes_1.f at H
  refine HT_seq_k ?_
  intro K1 hK1
  refine HT_region ?_
  refine HL_cons rfl ?_
  refine o_assign ?_
  try dsimp only [putL, setL, evL, getL]
  refine HL_nil ?_
  refine hK1 _ _ ?_
  refine HT_seq_k ?_
  intro K2 hK2
  refine HT_region ?_
  refine HL_cons rfl ?_
  refine o_move ?_
  try dsimp only [putL, setL, evL, getL]
  obtain ⟨u3, hu3, H⟩ := headE H
  refine HL_cons rfl ?_
  refine o_call (args := #[.int .i64 p0]) Try.func147 rfl rfl rfl (impl_GoodRune.ok sb s no p0 (Hp.own hH.bs) _ hu3) ?_
  rintro _ s3 ⟨rfl, hD⟩
  replace hH := hH.back0 hD (Up.refl _ _ _)
  clear hD
  dsimp only [addC, setC, rmC, selC, getC] at hH
  try dsimp only [putL, setL, evL, getL]
  refine HL_cons rfl ?_
  refine o_not rfl ?_
  try dsimp only [putL, setL, evL, getL]
  refine HL_cons rfl ?_
  refine o_assign ?_
  try dsimp only [putL, setL, evL, getL]
  refine HL_nil ?_
  refine hK2 _ _ ?_
  refine HT_ret ?_
  obtain rfl := Option.some.inj (show some _ = some r from H)
  exact hQr _ _ [.bool (!u3)] ⟨rfl, trivial⟩ ⟨rfl, hH⟩
def slices_IndexFunc_int_int_impl_areRunes_1.l1 (p0 : List (Int)) : Nat → Int → Option (Lo Unit Int)
  | 0, _ => none
  | kf + 1, x48 => if (decide (x48 < (p0.length : Int))) = true then ((rd? p0 x48).bind fun u67 => (impl_areRunes_1.f u67).bind fun u68 => if u68 = true then ((some x48).bind fun z => some (Lo.ret z)) else (slices_IndexFunc_int_int_impl_areRunes_1.l1 p0 kf (IntKind.i64.wrap (x48 + 1)))) else (some (Lo.go ()))
def slices_IndexFunc_int_int_impl_areRunes_1.f (p0 : List (Int)) : Option Int := (slices_IndexFunc_int_int_impl_areRunes_1.l1 p0 ((((p0.length : Int)) - (0)).toNat + 2) 0).bind fun (o : Lo Unit Int) => match o with | .go () => (some (-1)) | .ret z => some z
def slices_IndexFunc_int_int_impl_areRunes_1.post (sb s : St) (F0 : Fp) (r : Int) : Value → St → Prop := fun v s' => v = .int .i64 r ∧ Hp sb s F0 s' []
set_option maxRecDepth 100000 in
set_option maxHeartbeats 4000000 in
theorem slices_IndexFunc_int_int_impl_areRunes_1.ok (sb s : St) (F0 : Fp) (A0p : Option Addr) (c0p : Nat) (p0 : List (Int)) (HRp0 : Rd KI sb A0p c0p p0) (hH : Hp sb s F0 s []) (r : Int) (H : slices_IndexFunc_int_int_impl_areRunes_1.f p0 = some r) : GCall Try.prog 151 #[.slice A0p p0.length c0p, .func (.func 153) #[] #[]] s (slices_IndexFunc_int_int_impl_areRunes_1.post sb s F0 r) := by
  refine GCall_ofk [.tmp 4] [.slice A0p p0.length c0p, .func (.func 153) #[] #[], undef, undef, undef, undef, undef, undef, undef, undef, undef, undef, undef, undef, undef, undef, undef, undef, undef] Try.func151 rfl rfl rfl ?_
  intro w Q hQr hQn hQp
  replace H := topE H
  unfold slices_IndexFunc_int_int_impl_areRunes_1.f at H
  refine HT_seq_k ?_
  intro K1 hK1
  refine HT_region ?_
  refine HL_cons rfl ?_
  refine o_assign ?_
  try dsimp only [putL, setL, evL, getL]
  refine HL_nil ?_
  refine hK1 _ _ ?_
  refine HT_seq_k ?_
  intro K2 hK2
  refine HT_seq_k ?_
  intro K3 hK3
  refine HT_region ?_
  refine HL_cons rfl ?_
  refine o_move ?_
  try dsimp only [putL, setL, evL, getL]
  refine HL_cons rfl ?_
  refine o_len rfl Try.underlying22 ?_
  try dsimp only [putL, setL, evL, getL]
  refine HL_cons rfl ?_
  refine o_move ?_
  try dsimp only [putL, setL, evL, getL]
  refine HL_nil ?_
  refine hK3 _ _ ?_
  refine joinH H fun G4 hG4 H => ?_
  refine HT_toK (fun l' s' => G4 (.go ()) = some r ∧ l' = [.slice A0p p0.length c0p, .func (.func 153) #[] #[], undef, undef, getL l' 4, getL l' 5, .slice A0p p0.length c0p, .int .i64 (p0.length : Int), getL l' 8, getL l' 9, getL l' 10, getL l' 11, getL l' 12, getL l' 13, getL l' 14, getL l' 15, getL l' 16, getL l' 17, getL l' 18] ∧ Hp sb s F0 s' []) ?_ ?_
  · intro K4 hK4
    refine HT_block ?_
    refine HT_loopK (fun kf l' s' => ∃ (x48 : Int), (slices_IndexFunc_int_int_impl_areRunes_1.l1 p0 kf x48).bind G4 = some r ∧ l' = [.slice A0p p0.length c0p, .func (.func 153) #[] #[], undef, undef, getL l' 4, getL l' 5, .slice A0p p0.length c0p, .int .i64 (p0.length : Int), .int .i64 x48, getL l' 9, getL l' 10, getL l' 11, getL l' 12, getL l' 13, getL l' 14, getL l' 15, getL l' 16, getL l' 17, getL l' 18] ∧ Hp sb s F0 s' []) ((((p0.length : Int)) - (0)).toNat + 2) ⟨0, H, rfl, hH⟩ ?_
    rintro kf l' s60 ⟨x48, H, hl, hH⟩ K60 hK60
    generalize getL l' 4 = j4, getL l' 5 = j5, getL l' 9 = j9, getL l' 10 = j10, getL l' 11 = j11, getL l' 12 = j12, getL l' 13 = j13, getL l' 14 = j14, getL l' 15 = j15, getL l' 16 = j16, getL l' 17 = j17, getL l' 18 = j18 at hl
    subst hl
    cases kf with
    | zero => simp [slices_IndexFunc_int_int_impl_areRunes_1.l1] at H
    | succ kf =>
      rw [slices_IndexFunc_int_int_impl_areRunes_1.l1] at H
      refine HT_seq_k ?_
      intro K61 hK61
      refine HT_region ?_
      refine HL_cons rfl ?_
      refine o_bin rfl rfl rfl ?_
      try dsimp only [putL, setL, evL, getL]
      refine HL_nil ?_
      refine hK61 _ _ ?_
      refine HT_seq_k ?_
      intro K62 hK62
      rcases Bool.eq_false_or_eq_true (decide (x48 < (p0.length : Int))) with hb63 | hb63
      · replace H := iteT hb63 H
        refine HT_true (congrArg Value.bool hb63) ?_
        refine HT_skip ?_
        refine hK62 _ _ ?_
        refine HT_seq_k ?_
        intro K64 hK64
        refine HT_block ?_
        refine HT_seq_k ?_
        intro K65 hK65
        refine HT_region ?_
        refine HL_cons rfl ?_
        refine o_move ?_
        try dsimp only [putL, setL, evL, getL]
        refine HL_cons rfl ?_
        refine o_assign ?_
        try dsimp only [putL, setL, evL, getL]
        refine HL_nil ?_
        refine hK65 _ _ ?_
        refine HT_seq_k ?_
        intro K66 hK66
        refine HT_region ?_
        refine HL_cons rfl ?_
        refine o_move ?_
        try dsimp only [putL, setL, evL, getL]
        refine HL_cons rfl ?_
        refine o_move ?_
        try dsimp only [putL, setL, evL, getL]
        refine HL_cons rfl ?_
        refine o_move ?_
        try dsimp only [putL, setL, evL, getL]
        obtain ⟨u67, hu67, H⟩ := headE H
        obtain ⟨b67, o67, cs67, hr67, hh67, hel67⟩ := Rd.elb HRp0 hu67
        obtain rfl := hr67
        refine HL_cons rfl ?_
        refine hel67 s60 rfl rfl Try.underlying22 tI3 ?_
        try dsimp only [putL, setL, evL, getL]
        refine HL_cons rfl ?_
        refine o_load' rfl Try.underlying3 rfl ((hh67 hH.bs.mono) 0 _ rfl) ?_
        try dsimp only [putL, setL, evL, getL]
        obtain ⟨u68, hu68, H⟩ := headE H
        refine HL_cons rfl ?_
        refine o_callv (first := #[]) (cap := #[]) (args := #[.int .i64 u67]) rfl Try.func153 rfl rfl [.int .i64 u67] rfl (by simp) (impl_areRunes_1.ok sb s60 no u67 (Hp.own hH.bs) _ hu68) ?_
        rintro _ s68 ⟨rfl, hD⟩
        replace hH := hH.back0 hD (Up.refl _ _ _)
        clear hD
        dsimp only [addC, setC, rmC, selC, getC] at hH
        try dsimp only [putL, setL, evL, getL]
        refine HL_nil ?_
        refine hK66 _ _ ?_
        rcases Bool.eq_false_or_eq_true u68 with hb69 | hb69
        · replace H := iteT hb69 H
          refine HT_true (congrArg Value.bool hb69) ?_
          refine HT_seq_k ?_
          intro K70 hK70
          refine HT_region ?_
          refine HL_cons rfl ?_
          refine o_move ?_
          try dsimp only [putL, setL, evL, getL]
          refine HL_cons rfl ?_
          refine o_assign ?_
          try dsimp only [putL, setL, evL, getL]
          refine HL_nil ?_
          refine hK70 _ _ ?_
          refine HT_ret ?_
          replace H := escH (fun z hz => hG4 _ hz) H
          obtain rfl := Option.some.inj (show some _ = some r from H)
          exact hQr _ _ [.int .i64 x48] ⟨rfl, trivial⟩ ⟨rfl, hH⟩
        · replace H := iteF hb69 H
          refine HT_false (congrArg Value.bool hb69) ?_
          refine HT_skip ?_
          refine hK64 _ _ ?_
          refine HT_region ?_
          refine HL_cons rfl ?_
          refine o_bin rfl rfl rfl ?_
          try dsimp only [putL, setL, evL, getL]
          refine HL_cons rfl ?_
          refine o_move ?_
          try dsimp only [putL, setL, evL, getL]
          refine HL_nil ?_
          exact hK60 _ _ ⟨kf, Nat.lt_succ_self kf, IntKind.i64.wrap (x48 + 1), H, rfl, hH⟩
      · replace H := iteF hb63 H
        refine HT_false (congrArg Value.bool hb63) ?_
        refine HT_exit ?_
        exact hK4 _ _ ⟨H, rfl, hH⟩
  · rintro l' s71 ⟨H, hl, hH⟩
    generalize getL l' 4 = j4, getL l' 5 = j5, getL l' 8 = j8, getL l' 9 = j9, getL l' 10 = j10, getL l' 11 = j11, getL l' 12 = j12, getL l' 13 = j13, getL l' 14 = j14, getL l' 15 = j15, getL l' 16 = j16, getL l' 17 = j17, getL l' 18 = j18 at hl
    subst hl
    replace H := hG4 _ H
    try dsimp only at H
    refine hK2 _ _ ?_
    refine HT_seq_k ?_
    intro K72 hK72
    refine HT_region ?_
    refine HL_cons rfl ?_
    refine o_assign ?_
    try dsimp only [putL, setL, evL, getL]
    refine HL_nil ?_
    refine hK72 _ _ ?_
    refine HT_ret ?_
    obtain rfl := Option.some.inj (show some _ = some r from H)
    exact hQr _ _ [.int .i64 (-1)] ⟨rfl, trivial⟩ ⟨rfl, hH⟩
def slices_ContainsFunc_int_int_impl_areRunes_1.f (p0 : List (Int)) : Option Bool := (slices_IndexFunc_int_int_impl_areRunes_1.f p0).bind fun u3 => some (decide (u3 ≥ 0))
def slices_ContainsFunc_int_int_impl_areRunes_1.post (sb s : St) (F0 : Fp) (r : Bool) : Value → St → Prop := fun v s' => v = .bool r ∧ Hp sb s F0 s' []
set_option maxRecDepth 100000 in
set_option maxHeartbeats 4000000 in
theorem slices_ContainsFunc_int_int_impl_areRunes_1.ok (sb s : St) (F0 : Fp) (A0p : Option Addr) (c0p : Nat) (p0 : List (Int)) (HRp0 : Rd KI sb A0p c0p p0) (hH : Hp sb s F0 s []) (r : Bool) (H : slices_ContainsFunc_int_int_impl_areRunes_1.f p0 = some r) : GCall Try.prog 110 #[.slice A0p p0.length c0p, .func (.func 153) #[] #[]] s (slices_ContainsFunc_int_int_impl_areRunes_1.post sb s F0 r) := by
  refine GCall_ofk [.tmp 4] [.slice A0p p0.length c0p, .func (.func 153) #[] #[], undef, undef, undef, undef, undef, undef, undef] Try.func110 rfl rfl rfl ?_
  intro w Q hQr hQn hQp
  replace H := topE H
  unfold slices_ContainsFunc_int_int_impl_areRunes_1.f at H
  refine HT_seq_k ?_
  intro K1 hK1
  refine HT_region ?_
  refine HL_cons rfl ?_
  refine o_assign ?_
  try dsimp only [putL, setL, evL, getL]
  refine HL_nil ?_
  refine hK1 _ _ ?_
  refine HT_seq_k ?_
  intro K2 hK2
  refine HT_region ?_
  refine HL_cons rfl ?_
  refine o_move ?_
  try dsimp only [putL, setL, evL, getL]
  refine HL_cons rfl ?_
  refine o_move ?_
  try dsimp only [putL, setL, evL, getL]
  obtain ⟨u3, hu3, H⟩ := headE H
  refine HL_cons rfl ?_
  refine o_call (args := #[.slice A0p p0.length c0p, .func (.func 153) #[] #[]]) Try.func151 rfl rfl rfl (slices_IndexFunc_int_int_impl_areRunes_1.ok sb s no A0p c0p p0 HRp0 (Hp.own hH.bs) _ hu3) ?_
  rintro _ s3 ⟨rfl, hD⟩
  replace hH := hH.back0 hD (Up.refl _ _ _)
  clear hD
  dsimp only [addC, setC, rmC, selC, getC] at hH
  try dsimp only [putL, setL, evL, getL]
  refine HL_cons rfl ?_
  refine o_bin rfl rfl rfl ?_
  try dsimp only [putL, setL, evL, getL]
  refine HL_cons rfl ?_
  refine o_assign ?_
  try dsimp only [putL, setL, evL, getL]
  refine HL_nil ?_
  refine hK2 _ _ ?_
  refine HT_ret ?_
  obtain rfl := Option.some.inj (show some _ = some r from H)
  exact hQr _ _ [.bool (decide (u3 ≥ 0))] ⟨rfl, trivial⟩ ⟨rfl, hH⟩
def impl_areRunes.f (p0 : List (Int)) (p1 : Int) : Option Bool := if (decide ((p0.length : Int) ≤ p1)) = true then ((slices_ContainsFunc_int_int_impl_areRunes_1.f p0).bind fun u4 => some (!u4)) else (some false)
def impl_areRunes.post (sb s : St) (F0 : Fp) (r : Bool) : Value → St → Prop := fun v s' => v = .bool r ∧ Hp sb s F0 s' []
set_option maxRecDepth 100000 in
set_option maxHeartbeats 4000000 in
theorem impl_areRunes.ok (sb s : St) (F0 : Fp) (A0p : Option Addr) (c0p : Nat) (p0 : List (Int)) (p1 : Int) (HRp0 : Rd KI sb A0p c0p p0) (hH : Hp sb s F0 s []) (r : Bool) (H : impl_areRunes.f p0 p1 = some r) : GCall Try.prog 113 #[.slice A0p p0.length c0p, .int .i64 p1] s (impl_areRunes.post sb s F0 r) := by
  refine GCall_ofk [.tmp 4] [.slice A0p p0.length c0p, .int .i64 p1, undef, undef, undef, undef, undef, undef, undef, undef, undef, undef, undef, undef] Try.func113 rfl rfl rfl ?_
  intro w Q hQr hQn hQp
  replace H := topE H
  unfold impl_areRunes.f at H
  refine HT_seq_k ?_
  intro K1 hK1
  refine HT_region ?_
  refine HL_cons rfl ?_
  refine o_assign ?_
  try dsimp only [putL, setL, evL, getL]
  refine HL_nil ?_
  refine hK1 _ _ ?_
  refine HT_seq_k ?_
  intro K2 hK2
  refine HT_region ?_
  refine HL_cons rfl ?_
  refine o_move ?_
  try dsimp only [putL, setL, evL, getL]
  refine HL_cons rfl ?_
  refine o_len rfl Try.underlying22 ?_
  try dsimp only [putL, setL, evL, getL]
  refine HL_cons rfl ?_
  refine o_move ?_
  try dsimp only [putL, setL, evL, getL]
  refine HL_cons rfl ?_
  refine o_bin rfl rfl rfl ?_
  try dsimp only [putL, setL, evL, getL]
  refine HL_cons rfl ?_
  refine o_move ?_
  try dsimp only [putL, setL, evL, getL]
  rcases Bool.eq_false_or_eq_true (decide ((p0.length : Int) ≤ p1)) with hb3 | hb3
  · replace H := iteT hb3 H
    refine HL_want ?_ ?_
    · exact wantT (j := 4) (b := true) (t := 9) (c := decide ((p0.length : Int) ≤ p1)) rfl rfl rfl rfl hb3
    refine o_move ?_
    try dsimp only [putL, setL, evL, getL]
    obtain ⟨u4, hu4, H⟩ := headE H
    refine HL_want ?_ ?_
    · exact wantT (j := 4) (b := true) (t := 9) (c := decide ((p0.length : Int) ≤ p1)) rfl rfl rfl rfl hb3
    refine o_call (args := #[.slice A0p p0.length c0p, .func (.func 153) #[] #[]]) Try.func110 rfl rfl rfl (slices_ContainsFunc_int_int_impl_areRunes_1.ok sb s no A0p c0p p0 HRp0 (Hp.own hH.bs) _ hu4) ?_
    rintro _ s4 ⟨rfl, hD⟩
    replace hH := hH.back0 hD (Up.refl _ _ _)
    clear hD
    dsimp only [addC, setC, rmC, selC, getC] at hH
    try dsimp only [putL, setL, evL, getL]
    refine HL_want ?_ ?_
    · exact wantT (j := 4) (b := true) (t := 9) (c := decide ((p0.length : Int) ≤ p1)) rfl rfl rfl rfl hb3
    refine o_not rfl ?_
    try dsimp only [putL, setL, evL, getL]
    refine HL_cons rfl ?_
    refine o_pickT rfl hb3 ?_
    try dsimp only [putL, setL, evL, getL]
    refine HL_cons rfl ?_
    refine o_assign ?_
    try dsimp only [putL, setL, evL, getL]
    refine HL_nil ?_
    refine hK2 _ _ ?_
    refine HT_ret ?_
    obtain rfl := Option.some.inj (show some _ = some r from H)
    exact hQr _ _ [.bool (!u4)] ⟨rfl, trivial⟩ ⟨rfl, hH⟩
  · replace H := iteF hb3 H
    refine HL_skip ?_ ?_
    · exact wantF (j := 4) (b := true) (t := 9) (c := decide ((p0.length : Int) ≤ p1)) rfl rfl rfl rfl hb3
    try dsimp only [putL, setL, evL, getL]
    refine HL_skip ?_ ?_
    · exact wantF (j := 4) (b := true) (t := 9) (c := decide ((p0.length : Int) ≤ p1)) rfl rfl rfl rfl hb3
    try dsimp only [putL, setL, evL, getL]
    refine HL_skip ?_ ?_
    · exact wantF (j := 4) (b := true) (t := 9) (c := decide ((p0.length : Int) ≤ p1)) rfl rfl rfl rfl hb3
    try dsimp only [putL, setL, evL, getL]
    refine HL_cons rfl ?_
    refine o_pickF rfl hb3 ?_
    try dsimp only [putL, setL, evL, getL]
    refine HL_cons rfl ?_
    refine o_assign ?_
    try dsimp only [putL, setL, evL, getL]
    refine HL_nil ?_
    refine hK2 _ _ ?_
    refine HT_ret ?_
    obtain rfl := Option.some.inj (show some _ = some r from H)
    exact hQr _ _ [.bool false] ⟨rfl, trivial⟩ ⟨rfl, hH⟩
def impl_GoodBuf_1.f (p0 : Int) : Option Bool := (impl_inRange.f p0 1 1000).bind fun u3 => some (!u3)
def impl_GoodBuf_1.post (sb s : St) (F0 : Fp) (r : Bool) : Value → St → Prop := fun v s' => v = .bool r ∧ Hp sb s F0 s' []
set_option maxRecDepth 100000 in
set_option maxHeartbeats 4000000 in
theorem impl_GoodBuf_1.ok (sb s : St) (F0 : Fp) (p0 : Int) (hH : Hp sb s F0 s []) (r : Bool) (H : impl_GoodBuf_1.f p0 = some r) : GCall Try.prog 132 #[.int .i64 p0] s (impl_GoodBuf_1.post sb s F0 r) := by
  refine GCall_ofk [.tmp 2] [.int .i64 p0, undef, undef, undef, undef, undef] Try.func132 rfl rfl rfl ?_
  intro w Q hQr hQn hQp
  replace H := topE H
  unfold impl_GoodBuf_1.f at H
  refine HT_seq_k ?_
  intro K1 hK1
  refine HT_region ?_
  refine HL_cons rfl ?_
  refine o_assign ?_
  try dsimp only [putL, setL, evL, getL]
  refine HL_nil ?_
  refine hK1 _ _ ?_
  refine HT_seq_k ?_
  intro K2 hK2
  refine HT_region ?_
  refine HL_cons rfl ?_
  refine o_move ?_
  try dsimp only [putL, setL, evL, getL]
  obtain ⟨u3, hu3, H⟩ := headE H
  refine HL_cons rfl ?_
  refine o_call (args := #[.int .i64 p0, .int .i64 1, .int .i64 1000]) Try.func86 rfl rfl rfl (impl_inRange.ok sb s no p0 1 1000 (Hp.own hH.bs) _ hu3) ?_
  rintro _ s3 ⟨rfl, hD⟩
  replace hH := hH.back0 hD (Up.refl _ _ _)
  clear hD
  dsimp only [addC, setC, rmC, selC, getC] at hH
  try dsimp only [putL, setL, evL, getL]
  refine HL_cons rfl ?_
  refine o_not rfl ?_
  try dsimp only [putL, setL, evL, getL]
  refine HL_cons rfl ?_
  refine o_assign ?_
  try dsimp only [putL, setL, evL, getL]
  refine HL_nil ?_
  refine hK2 _ _ ?_
  refine HT_ret ?_
  obtain rfl := Option.some.inj (show some _ = some r from H)
  exact hQr _ _ [.bool (!u3)] ⟨rfl, trivial⟩ ⟨rfl, hH⟩
def slices_IndexFunc_int_int_impl_GoodBuf_1.l1 (p0 : List (Int)) : Nat → Int → Option (Lo Unit Int)
  | 0, _ => none
  | kf + 1, x48 => if (decide (x48 < (p0.length : Int))) = true then ((rd? p0 x48).bind fun u67 => (impl_GoodBuf_1.f u67).bind fun u68 => if u68 = true then ((some x48).bind fun z => some (Lo.ret z)) else (slices_IndexFunc_int_int_impl_GoodBuf_1.l1 p0 kf (IntKind.i64.wrap (x48 + 1)))) else (some (Lo.go ()))
def slices_IndexFunc_int_int_impl_GoodBuf_1.f (p0 : List (Int)) : Option Int := (slices_IndexFunc_int_int_impl_GoodBuf_1.l1 p0 ((((p0.length : Int)) - (0)).toNat + 2) 0).bind fun (o : Lo Unit Int) => match o with | .go () => (some (-1)) | .ret z => some z
def slices_IndexFunc_int_int_impl_GoodBuf_1.post (sb s : St) (F0 : Fp) (r : Int) : Value → St → Prop := fun v s' => v = .int .i64 r ∧ Hp sb s F0 s' []
set_option maxRecDepth 100000 in
set_option maxHeartbeats 4000000 in
theorem slices_IndexFunc_int_int_impl_GoodBuf_1.ok (sb s : St) (F0 : Fp) (A0p : Option Addr) (c0p : Nat) (p0 : List (Int)) (HRp0 : Rd KI sb A0p c0p p0) (hH : Hp sb s F0 s []) (r : Int) (H : slices_IndexFunc_int_int_impl_GoodBuf_1.f p0 = some r) : GCall Try.prog 151 #[.slice A0p p0.length c0p, .func (.func 132) #[] #[]] s (slices_IndexFunc_int_int_impl_GoodBuf_1.post sb s F0 r) := by
  refine GCall_ofk [.tmp 4] [.slice A0p p0.length c0p, .func (.func 132) #[] #[], undef, undef, undef, undef, undef, undef, undef, undef, undef, undef, undef, undef, undef, undef, undef, undef, undef] Try.func151 rfl rfl rfl ?_
  intro w Q hQr hQn hQp
  replace H := topE H
  unfold slices_IndexFunc_int_int_impl_GoodBuf_1.f at H
  refine HT_seq_k ?_
  intro K1 hK1
  refine HT_region ?_
  refine HL_cons rfl ?_
  refine o_assign ?_
  try dsimp only [putL, setL, evL, getL]
  refine HL_nil ?_
  refine hK1 _ _ ?_
  refine HT_seq_k ?_
  intro K2 hK2
  refine HT_seq_k ?_
  intro K3 hK3
  refine HT_region ?_
  refine HL_cons rfl ?_
  refine o_move ?_
  try dsimp only [putL, setL, evL, getL]
  refine HL_cons rfl ?_
  refine o_len rfl Try.underlying22 ?_
  try dsimp only [putL, setL, evL, getL]
  refine HL_cons rfl ?_
  refine o_move ?_
  try dsimp only [putL, setL, evL, getL]
  refine HL_nil ?_
  refine hK3 _ _ ?_
  refine joinH H fun G4 hG4 H => ?_
  refine HT_toK (fun l' s' => G4 (.go ()) = some r ∧ l' = [.slice A0p p0.length c0p, .func (.func 132) #[] #[], undef, undef, getL l' 4, getL l' 5, .slice A0p p0.length c0p, .int .i64 (p0.length : Int), getL l' 8, getL l' 9, getL l' 10, getL l' 11, getL l' 12, getL l' 13, getL l' 14, getL l' 15, getL l' 16, getL l' 17, getL l' 18] ∧ Hp sb s F0 s' []) ?_ ?_
  · intro K4 hK4
    refine HT_block ?_
    refine HT_loopK (fun kf l' s' => ∃ (x48 : Int), (slices_IndexFunc_int_int_impl_GoodBuf_1.l1 p0 kf x48).bind G4 = some r ∧ l' = [.slice A0p p0.length c0p, .func (.func 132) #[] #[], undef, undef, getL l' 4, getL l' 5, .slice A0p p0.length c0p, .int .i64 (p0.length : Int), .int .i64 x48, getL l' 9, getL l' 10, getL l' 11, getL l' 12, getL l' 13, getL l' 14, getL l' 15, getL l' 16, getL l' 17, getL l' 18] ∧ Hp sb s F0 s' []) ((((p0.length : Int)) - (0)).toNat + 2) ⟨0, H, rfl, hH⟩ ?_
    rintro kf l' s60 ⟨x48, H, hl, hH⟩ K60 hK60
    generalize getL l' 4 = j4, getL l' 5 = j5, getL l' 9 = j9, getL l' 10 = j10, getL l' 11 = j11, getL l' 12 = j12, getL l' 13 = j13, getL l' 14 = j14, getL l' 15 = j15, getL l' 16 = j16, getL l' 17 = j17, getL l' 18 = j18 at hl
    subst hl
    cases kf with
    | zero => simp [slices_IndexFunc_int_int_impl_GoodBuf_1.l1] at H
    | succ kf =>
      rw [slices_IndexFunc_int_int_impl_GoodBuf_1.l1] at H
      refine HT_seq_k ?_
      intro K61 hK61
      refine HT_region ?_
      refine HL_cons rfl ?_
      refine o_bin rfl rfl rfl ?_
      try dsimp only [putL, setL, evL, getL]
      refine HL_nil ?_
      refine hK61 _ _ ?_
      refine HT_seq_k ?_
      intro K62 hK62
      rcases Bool.eq_false_or_eq_true (decide (x48 < (p0.length : Int))) with hb63 | hb63
      · replace H := iteT hb63 H
        refine HT_true (congrArg Value.bool hb63) ?_
        refine HT_skip ?_
        refine hK62 _ _ ?_
        refine HT_seq_k ?_
        intro K64 hK64
        refine HT_block ?_
        refine HT_seq_k ?_
        intro K65 hK65
        refine HT_region ?_
        refine HL_cons rfl ?_
        refine o_move ?_
        try dsimp only [putL, setL, evL, getL]
        refine HL_cons rfl ?_
        refine o_assign ?_
        try dsimp only [putL, setL, evL, getL]
        refine HL_nil ?_
        refine hK65 _ _ ?_
        refine HT_seq_k ?_
        intro K66 hK66
        refine HT_region ?_
        refine HL_cons rfl ?_
        refine o_move ?_
        try dsimp only [putL, setL, evL, getL]
        refine HL_cons rfl ?_
        refine o_move ?_
        try dsimp only [putL, setL, evL, getL]
        refine HL_cons rfl ?_
        refine o_move ?_
        try dsimp only [putL, setL, evL, getL]
        obtain ⟨u67, hu67, H⟩ := headE H
        obtain ⟨b67, o67, cs67, hr67, hh67, hel67⟩ := Rd.elb HRp0 hu67
        obtain rfl := hr67
        refine HL_cons rfl ?_
        refine hel67 s60 rfl rfl Try.underlying22 tI3 ?_
        try dsimp only [putL, setL, evL, getL]
        refine HL_cons rfl ?_
        refine o_load' rfl Try.underlying3 rfl ((hh67 hH.bs.mono) 0 _ rfl) ?_
        try dsimp only [putL, setL, evL, getL]
        obtain ⟨u68, hu68, H⟩ := headE H
        refine HL_cons rfl ?_
        refine o_callv (first := #[]) (cap := #[]) (args := #[.int .i64 u67]) rfl Try.func132 rfl rfl [.int .i64 u67] rfl (by simp) (impl_GoodBuf_1.ok sb s60 no u67 (Hp.own hH.bs) _ hu68) ?_
        rintro _ s68 ⟨rfl, hD⟩
        replace hH := hH.back0 hD (Up.refl _ _ _)
        clear hD
        dsimp only [addC, setC, rmC, selC, getC] at hH
        try dsimp only [putL, setL, evL, getL]
        refine HL_nil ?_
        refine hK66 _ _ ?_
        rcases Bool.eq_false_or_eq_true u68 with hb69 | hb69
        · replace H := iteT hb69 H
          refine HT_true (congrArg Value.bool hb69) ?_
          refine HT_seq_k ?_
          intro K70 hK70
          refine HT_region ?_
          refine HL_cons rfl ?_
          refine o_move ?_
          try dsimp only [putL, setL, evL, getL]
          refine HL_cons rfl ?_
          refine o_assign ?_
          try dsimp only [putL, setL, evL, getL]
          refine HL_nil ?_
          refine hK70 _ _ ?_
          refine HT_ret ?_
          replace H := escH (fun z hz => hG4 _ hz) H
          obtain rfl := Option.some.inj (show some _ = some r from H)
          exact hQr _ _ [.int .i64 x48] ⟨rfl, trivial⟩ ⟨rfl, hH⟩
        · replace H := iteF hb69 H
          refine HT_false (congrArg Value.bool hb69) ?_
          refine HT_skip ?_
          refine hK64 _ _ ?_
          refine HT_region ?_
          refine HL_cons rfl ?_
          refine o_bin rfl rfl rfl ?_
          try dsimp only [putL, setL, evL, getL]
          refine HL_cons rfl ?_
          refine o_move ?_
          try dsimp only [putL, setL, evL, getL]
          refine HL_nil ?_
          exact hK60 _ _ ⟨kf, Nat.lt_succ_self kf, IntKind.i64.wrap (x48 + 1), H, rfl, hH⟩
      · replace H := iteF hb63 H
        refine HT_false (congrArg Value.bool hb63) ?_
        refine HT_exit ?_
        exact hK4 _ _ ⟨H, rfl, hH⟩
  · rintro l' s71 ⟨H, hl, hH⟩
    generalize getL l' 4 = j4, getL l' 5 = j5, getL l' 8 = j8, getL l' 9 = j9, getL l' 10 = j10, getL l' 11 = j11, getL l' 12 = j12, getL l' 13 = j13, getL l' 14 = j14, getL l' 15 = j15, getL l' 16 = j16, getL l' 17 = j17, getL l' 18 = j18 at hl
    subst hl
    replace H := hG4 _ H
    try dsimp only at H
    refine hK2 _ _ ?_
    refine HT_seq_k ?_
    intro K72 hK72
    refine HT_region ?_
    refine HL_cons rfl ?_
    refine o_assign ?_
    try dsimp only [putL, setL, evL, getL]
    refine HL_nil ?_
    refine hK72 _ _ ?_
    refine HT_ret ?_
    obtain rfl := Option.some.inj (show some _ = some r from H)
    exact hQr _ _ [.int .i64 (-1)] ⟨rfl, trivial⟩ ⟨rfl, hH⟩
def slices_ContainsFunc_int_int_impl_GoodBuf_1.f (p0 : List (Int)) : Option Bool := (slices_IndexFunc_int_int_impl_GoodBuf_1.f p0).bind fun u3 => some (decide (u3 ≥ 0))
def slices_ContainsFunc_int_int_impl_GoodBuf_1.post (sb s : St) (F0 : Fp) (r : Bool) : Value → St → Prop := fun v s' => v = .bool r ∧ Hp sb s F0 s' []
set_option maxRecDepth 100000 in
set_option maxHeartbeats 4000000 in
theorem slices_ContainsFunc_int_int_impl_GoodBuf_1.ok (sb s : St) (F0 : Fp) (A0p : Option Addr) (c0p : Nat) (p0 : List (Int)) (HRp0 : Rd KI sb A0p c0p p0) (hH : Hp sb s F0 s []) (r : Bool) (H : slices_ContainsFunc_int_int_impl_GoodBuf_1.f p0 = some r) : GCall Try.prog 110 #[.slice A0p p0.length c0p, .func (.func 132) #[] #[]] s (slices_ContainsFunc_int_int_impl_GoodBuf_1.post sb s F0 r) := by
  refine GCall_ofk [.tmp 4] [.slice A0p p0.length c0p, .func (.func 132) #[] #[], undef, undef, undef, undef, undef, undef, undef] Try.func110 rfl rfl rfl ?_
  intro w Q hQr hQn hQp
  replace H := topE H
  unfold slices_ContainsFunc_int_int_impl_GoodBuf_1.f at H
  refine HT_seq_k ?_
  intro K1 hK1
  refine HT_region ?_
  refine HL_cons rfl ?_
  refine o_assign ?_
  try dsimp only [putL, setL, evL, getL]
  refine HL_nil ?_
  refine hK1 _ _ ?_
  refine HT_seq_k ?_
  intro K2 hK2
  refine HT_region ?_
  refine HL_cons rfl ?_
  refine o_move ?_
  try dsimp only [putL, setL, evL, getL]
  refine HL_cons rfl ?_
  refine o_move ?_
  try dsimp only [putL, setL, evL, getL]
  obtain ⟨u3, hu3, H⟩ := headE H
  refine HL_cons rfl ?_
  refine o_call (args := #[.slice A0p p0.length c0p, .func (.func 132) #[] #[]]) Try.func151 rfl rfl rfl (slices_IndexFunc_int_int_impl_GoodBuf_1.ok sb s no A0p c0p p0 HRp0 (Hp.own hH.bs) _ hu3) ?_
  rintro _ s3 ⟨rfl, hD⟩
  replace hH := hH.back0 hD (Up.refl _ _ _)
  clear hD
  dsimp only [addC, setC, rmC, selC, getC] at hH
  try dsimp only [putL, setL, evL, getL]
  refine HL_cons rfl ?_
  refine o_bin rfl rfl rfl ?_
  try dsimp only [putL, setL, evL, getL]
  refine HL_cons rfl ?_
  refine o_assign ?_
  try dsimp only [putL, setL, evL, getL]
  refine HL_nil ?_
  refine hK2 _ _ ?_
  refine HT_ret ?_
  obtain rfl := Option.some.inj (show some _ = some r from H)
  exact hQr _ _ [.bool (decide (u3 ≥ 0))] ⟨rfl, trivial⟩ ⟨rfl, hH⟩
end Go.Proofs.Ytopecknfnhocpaa
