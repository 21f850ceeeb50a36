/- The functions that the law reaches, as plain functions, each with its contract: printed by a program of the prover's. No conditions: lemmas. -/
import Derived.Test.YtihocjbngajjkaaProg
import Derived.Test.YtihocjbngajjkaaGG
set_option linter.unusedVariables false
set_option linter.unusedSimpArgs false
namespace Go.Proofs.Ytihocjbngajjkaa
open Go Go.Proofs.GL
theorem tI3 : TI Try.prog 3 (.int .i64 0) 1 8 := by unfold TI; kernel_rfl
theorem tI22 : TI Try.prog 22 (.slice none 0 0) 1 24 := by unfold TI; kernel_rfl
theorem tI24 : TI Try.prog 24 (.agg #[.int .i64 0, .int .i64 0, .slice none 0 0, .int .i64 0, .int .i64 0]) 5 56 := by unfold TI; kernel_rfl
theorem tI27 : TI Try.prog 27 (.agg #[.int .i64 0, .int .i64 0, .slice none 0 0, .int .i64 0, .int .i64 0]) 5 56 := by unfold TI; kernel_rfl
theorem hMix : Try.prog.follows .mixedOrders = true := by kernel_rfl
def laws_szIntS.f (p0 : List (Int)) (p1 : Int) : Option Int := if (decide ((IntKind.i64.wrap (p1 - (p0.length : Int))) < 0)) = true then (some (-1)) else (some (IntKind.i64.wrap (p1 - (p0.length : Int))))
def laws_szIntS.post (sb s : St) (F0 : Fp) (r : Int) : Value → St → Prop := fun v s' => v = .int .i64 r ∧ Hp sb s F0 s' []
set_option maxRecDepth 100000 in
set_option maxHeartbeats 4000000 in
theorem laws_szIntS.ok (sb s : St) (F0 : Fp) (A0p : Option Addr) (c0p : Nat) (p0 : List (Int)) (p1 : Int) (HRp0 : Rd KI sb A0p c0p p0) (hH : Hp sb s F0 s []) (r : Int) (H : laws_szIntS.f p0 p1 = some r) : GCall Try.prog 30 #[.slice A0p p0.length c0p, .int .i64 p1] s (laws_szIntS.post sb s F0 r) := by
  refine GCall_ofk [.tmp 4] [.slice A0p p0.length c0p, .int .i64 p1, undef, undef, undef, undef, undef, undef, undef, undef, undef, undef] Try.func30 rfl rfl rfl ?_
  intro w Q hQr hQn hQp
  replace H := topE H
  unfold laws_szIntS.f at H
  refine HT_seq_k ?_
  intro K1 hK1
  refine HT_region ?_
  refine HL_cons rfl ?_
  refine o_assign ?_
  try dsimp only [putL, setL, evL, getL]
  refine HL_nil ?_
  refine hK1 _ _ ?_
  refine HT_seq_k ?_
  intro K2 hK2
  refine HT_region ?_
  refine HL_cons rfl ?_
  refine o_move ?_
  try dsimp only [putL, setL, evL, getL]
  refine HL_cons rfl ?_
  refine o_move ?_
  try dsimp only [putL, setL, evL, getL]
  refine HL_cons rfl ?_
  refine o_len rfl Try.underlying22 ?_
  try dsimp only [putL, setL, evL, getL]
  refine HL_cons rfl ?_
  refine o_bin rfl rfl rfl ?_
  try dsimp only [putL, setL, evL, getL]
  refine HL_cons rfl ?_
  refine o_assign ?_
  try dsimp only [putL, setL, evL, getL]
  refine HL_nil ?_
  refine hK2 _ _ ?_
  refine HT_seq_k ?_
  intro K3 hK3
  refine HT_seq_k ?_
  intro K4 hK4
  refine HT_region ?_
  refine HL_cons rfl ?_
  refine o_move ?_
  try dsimp only [putL, setL, evL, getL]
  refine HL_cons rfl ?_
  refine o_bin rfl rfl rfl ?_
  try dsimp only [putL, setL, evL, getL]
  refine HL_nil ?_
  refine hK4 _ _ ?_
  rcases Bool.eq_false_or_eq_true (decide ((IntKind.i64.wrap (p1 - (p0.length : Int))) < 0)) with hb5 | hb5
  · replace H := iteT hb5 H
    refine HT_true (congrArg Value.bool hb5) ?_
    refine HT_seq_k ?_
    intro K6 hK6
    refine HT_region ?_
    refine HL_cons rfl ?_
    refine o_assign ?_
    try dsimp only [putL, setL, evL, getL]
    refine HL_nil ?_
    refine hK6 _ _ ?_
    refine HT_ret ?_
    obtain rfl := Option.some.inj (show some _ = some r from H)
    exact hQr _ _ [.int .i64 (-1)] ⟨rfl, trivial⟩ ⟨rfl, hH⟩
  · replace H := iteF hb5 H
    refine HT_false (congrArg Value.bool hb5) ?_
    refine HT_skip ?_
    refine hK3 _ _ ?_
    refine HT_seq_k ?_
    intro K7 hK7
    refine HT_region ?_
    refine HL_cons rfl ?_
    refine o_move ?_
    try dsimp only [putL, setL, evL, getL]
    refine HL_cons rfl ?_
    refine o_assign ?_
    try dsimp only [putL, setL, evL, getL]
    refine HL_nil ?_
    refine hK7 _ _ ?_
    refine HT_ret ?_
    obtain rfl := Option.some.inj (show some _ = some r from H)
    exact hQr _ _ [.int .i64 (IntKind.i64.wrap (p1 - (p0.length : Int)))] ⟨rfl, trivial⟩ ⟨rfl, hH⟩
def laws_szScreen.f (p0_0 : Int) (p0_1 : Int) (p0_2 : List (Int)) (p0_3 : Int) (p0_4 : Int) (p1 : Int) : Option Int := (laws_szIntS.f p0_2 p1).bind fun u4 => if (decide (u4 < 0)) = true then (some (-1)) else (some u4)
def laws_szScreen.post (sb s : St) (F0 : Fp) (r : Int) : Value → St → Prop := fun v s' => v = .int .i64 r ∧ Hp sb s F0 s' []
set_option maxRecDepth 100000 in
set_option maxHeartbeats 4000000 in
theorem laws_szScreen.ok (sb s : St) (F0 : Fp) (p0_0 : Int) (p0_1 : Int) (A0_2p : Option Addr) (c0_2p : Nat) (p0_2 : List (Int)) (p0_3 : Int) (p0_4 : Int) (p1 : Int) (HRp0_2 : Rd KI sb A0_2p c0_2p p0_2) (hH : Hp sb s F0 s []) (r : Int) (H : laws_szScreen.f p0_0 p0_1 p0_2 p0_3 p0_4 p1 = some r) : GCall Try.prog 9 #[.agg #[.int .i64 p0_0, .int .i64 p0_1, .slice A0_2p p0_2.length c0_2p, .int .i64 p0_3, .int .i64 p0_4], .int .i64 p1] s (laws_szScreen.post sb s F0 r) := by
  refine GCall_ofk [.tmp 4] [.agg #[.int .i64 p0_0, .int .i64 p0_1, .slice A0_2p p0_2.length c0_2p, .int .i64 p0_3, .int .i64 p0_4], .int .i64 p1, undef, undef, undef, undef, undef, undef, undef, undef, undef, undef] Try.func9 rfl rfl rfl ?_
  intro w Q hQr hQn hQp
  replace H := topE H
  unfold laws_szScreen.f at H
  refine HT_seq_k ?_
  intro K1 hK1
  refine HT_region ?_
  refine HL_cons rfl ?_
  refine o_boxH hH rfl ?_
  intro b2 s2 hH' hG
  replace hH : Hp sb s F0 s2 [Ck.ov b2 [.int .i64 p0_0, .int .i64 p0_1, .slice A0_2p p0_2.length c0_2p, .int .i64 p0_3, .int .i64 p0_4] 24] := hH'
  clear hH' hG
  try dsimp only [putL, setL, evL, getL]
  refine HL_cons rfl ?_
  refine o_assign ?_
  try dsimp only [putL, setL, evL, getL]
  refine HL_nil ?_
  refine hK1 _ _ ?_
  refine HT_seq_k ?_
  intro K3 hK3
  refine HT_region ?_
  refine HL_cons rfl ?_
  refine o_faddr' (ft := 22) (off := 2) rfl Try.underlying24 rfl tI22 (by decide) ?_
  try dsimp only [putL, setL, evL, getL]
  refine HL_cons rfl ?_
  refine o_load' rfl Try.underlying22 rfl (hH.hasv 0 rfl rfl) ?_
  try dsimp only [putL, setL, evL, getL]
  refine HL_cons rfl ?_
  refine o_move ?_
  try dsimp only [putL, setL, evL, getL]
  obtain ⟨u4, hu4, H⟩ := headE H
  refine HL_cons rfl ?_
  refine o_call (args := #[.slice A0_2p p0_2.length c0_2p, .int .i64 p1]) Try.func30 rfl rfl rfl (laws_szIntS.ok sb s2 no A0_2p c0_2p p0_2 p1 HRp0_2 (Hp.own hH.bs) _ hu4) ?_
  rintro _ s4 ⟨rfl, hD⟩
  replace hH := hH.back0 hD (Up.refl _ _ _)
  clear hD
  dsimp only [addC, setC, rmC, selC, getC] at hH
  try dsimp only [putL, setL, evL, getL]
  refine HL_cons rfl ?_
  refine o_assign ?_
  try dsimp only [putL, setL, evL, getL]
  refine HL_nil ?_
  refine hK3 _ _ ?_
  refine HT_seq_k ?_
  intro K5 hK5
  refine HT_seq_k ?_
  intro K6 hK6
  refine HT_region ?_
  refine HL_cons rfl ?_
  refine o_move ?_
  try dsimp only [putL, setL, evL, getL]
  refine HL_cons rfl ?_
  refine o_bin rfl rfl rfl ?_
  try dsimp only [putL, setL, evL, getL]
  refine HL_nil ?_
  refine hK6 _ _ ?_
  rcases Bool.eq_false_or_eq_true (decide (u4 < 0)) with hb7 | hb7
  · replace H := iteT hb7 H
    refine HT_true (congrArg Value.bool hb7) ?_
    refine HT_seq_k ?_
    intro K8 hK8
    refine HT_region ?_
    refine HL_cons rfl ?_
    refine o_assign ?_
    try dsimp only [putL, setL, evL, getL]
    refine HL_nil ?_
    refine hK8 _ _ ?_
    refine HT_ret ?_
    obtain rfl := Option.some.inj (show some _ = some r from H)
    exact hQr _ _ [.int .i64 (-1)] ⟨rfl, trivial⟩ ⟨rfl, hH.sel [] (by decide)⟩
  · replace H := iteF hb7 H
    refine HT_false (congrArg Value.bool hb7) ?_
    refine HT_skip ?_
    refine hK5 _ _ ?_
    refine HT_seq_k ?_
    intro K9 hK9
    refine HT_region ?_
    refine HL_cons rfl ?_
    refine o_move ?_
    try dsimp only [putL, setL, evL, getL]
    refine HL_cons rfl ?_
    refine o_assign ?_
    try dsimp only [putL, setL, evL, getL]
    refine HL_nil ?_
    refine hK9 _ _ ?_
    refine HT_ret ?_
    obtain rfl := Option.some.inj (show some _ = some r from H)
    exact hQr _ _ [.int .i64 u4] ⟨rfl, trivial⟩ ⟨rfl, hH.sel [] (by decide)⟩
def laws_toIntS.l1 (p0 : List (Int)) : Nat → (List (Int)) → Int → Option (List (Int))
  | 0, _, _ => none
  | kf + 1, x41, x42 => if (decide (x42 < (p0.length : Int))) = true then ((rd? p0 x42).bind fun u57 => (rd? x41 x42).bind fun u58 => (st? x41 x42 u57).bind fun x59 => laws_toIntS.l1 p0 kf x59 (IntKind.i64.wrap (x42 + 1))) else (some x41)
def laws_toIntS.f (p0 : List (Int)) : Option (List (Int)) := (mk? 17592186044416 0 (p0.length : Int)).bind fun x3 => (laws_toIntS.l1 p0 ((((p0.length : Int)) - (0)).toNat + 2) x3 0).bind fun (o : (List (Int))) => match o with | x33 => (some x33)
def laws_toIntS.post (sb s : St) (F0 : Fp) (r : (List (Int))) : Value → St → Prop := fun v s' => ∃ (A0 : Option Addr) (c0 : Nat), v = .slice A0 r.length c0 ∧ Hp sb s F0 s' [Ck.ol OI 3 A0 c0 r]
set_option maxRecDepth 100000 in
set_option maxHeartbeats 4000000 in
theorem laws_toIntS.ok (sb s : St) (F0 : Fp) (A0p : Option Addr) (c0p : Nat) (p0 : List (Int)) (HRp0 : Rd KI sb A0p c0p p0) (hH : Hp sb s F0 s []) (r : (List (Int))) (H : laws_toIntS.f p0 = some r) : GCall Try.prog 15 #[.slice A0p p0.length c0p] s (laws_toIntS.post sb s F0 r) := by
  refine GCall_ofk [.tmp 2] [.slice A0p p0.length c0p, undef, undef, undef, undef, undef, undef, undef, undef, undef, undef, undef, undef, undef, undef, undef, undef, undef, undef, undef, undef, undef] Try.func15 rfl rfl rfl ?_
  intro w Q hQr hQn hQp
  replace H := topE H
  unfold laws_toIntS.f at H
  refine HT_seq_k ?_
  intro K1 hK1
  refine HT_region ?_
  refine HL_cons rfl ?_
  refine o_assign ?_
  try dsimp only [putL, setL, evL, getL]
  refine HL_nil ?_
  refine hK1 _ _ ?_
  refine HT_seq_k ?_
  intro K2 hK2
  refine HT_region ?_
  refine HL_cons rfl ?_
  refine o_move ?_
  try dsimp only [putL, setL, evL, getL]
  refine HL_cons rfl ?_
  refine o_len rfl Try.underlying22 ?_
  try dsimp only [putL, setL, evL, getL]
  obtain ⟨x3, hx3, H⟩ := headE H
  refine HL_cons rfl ?_
  refine o_makeH (K := KI) (O := OI) (x0 := 0) hH rfl Try.underlying22 tI3 rfl (by decide) (by decide) (by decide) (Own0.fl fun _ => rfl) hx3 ?_
  intro A3 c3 s3 hH' hG
  replace hH : Hp sb s F0 s3 [Ck.ol OI 3 A3 c3 x3] := hH'
  clear hH' hG
  try dsimp only [putL, setL, evL, getL]
  refine HL_cons rfl ?_
  refine o_assign ?_
  try dsimp only [putL, setL, evL, getL]
  refine HL_nil ?_
  refine hK2 _ _ ?_
  refine HT_seq_k ?_
  intro K4 hK4
  refine HT_seq_k ?_
  intro K5 hK5
  refine HT_region ?_
  refine HL_cons rfl ?_
  refine o_assign ?_
  try dsimp only [putL, setL, evL, getL]
  refine HL_nil ?_
  refine hK5 _ _ ?_
  refine joinH H fun G6 hG6 H => ?_
  refine HT_toK (fun l' s' => ∃ (x33 : List (Int)), G6 x33 = some r ∧ l' = [.slice A0p p0.length c0p, undef, .slice none 0 0, .slice A3 x3.length c3, getL l' 4, .slice A0p p0.length c0p, .int .i64 (p0.length : Int), .slice A3 x3.length c3, getL l' 8, getL l' 9, getL l' 10, getL l' 11, getL l' 12, getL l' 13, getL l' 14, getL l' 15, getL l' 16, getL l' 17, getL l' 18, getL l' 19, getL l' 20, undef] ∧ Hp sb s F0 s' [Ck.ol OI 3 A3 c3 x33] ∧ x33.length = x3.length) ?_ ?_
  · intro K6 hK6
    refine HT_block ?_
    refine HT_loopK (fun kf l' s' => ∃ (x41 : List (Int)) (x42 : Int), (laws_toIntS.l1 p0 kf x41 x42).bind G6 = some r ∧ l' = [.slice A0p p0.length c0p, undef, .slice none 0 0, .slice A3 x3.length c3, .int .i64 x42, .slice A0p p0.length c0p, .int .i64 (p0.length : Int), .slice A3 x3.length c3, getL l' 8, getL l' 9, getL l' 10, getL l' 11, getL l' 12, getL l' 13, getL l' 14, getL l' 15, getL l' 16, getL l' 17, getL l' 18, getL l' 19, getL l' 20, undef] ∧ Hp sb s F0 s' [Ck.ol OI 3 A3 c3 x41] ∧ x41.length = x3.length) ((((p0.length : Int)) - (0)).toNat + 2) ⟨x3, 0, H, rfl, hH, rfl⟩ ?_
    rintro kf l' s52 ⟨x41, x42, H, hl, hH, hl41⟩ K52 hK52
    generalize getL l' 8 = j8, getL l' 9 = j9, getL l' 10 = j10, getL l' 11 = j11, getL l' 12 = j12, getL l' 13 = j13, getL l' 14 = j14, getL l' 15 = j15, getL l' 16 = j16, getL l' 17 = j17, getL l' 18 = j18, getL l' 19 = j19, getL l' 20 = j20 at hl
    subst hl
    cases kf with
    | zero => simp [laws_toIntS.l1] at H
    | succ kf =>
      rw [laws_toIntS.l1] at H
      refine HT_seq_k ?_
      intro K53 hK53
      refine HT_seq_k ?_
      intro K54 hK54
      refine HT_region ?_
      refine HL_cons rfl ?_
      refine o_move ?_
      try dsimp only [putL, setL, evL, getL]
      refine HL_cons rfl ?_
      refine o_move ?_
      try dsimp only [putL, setL, evL, getL]
      refine HL_cons rfl ?_
      refine o_len rfl Try.underlying22 ?_
      try dsimp only [putL, setL, evL, getL]
      refine HL_cons rfl ?_
      refine o_bin rfl rfl rfl ?_
      try dsimp only [putL, setL, evL, getL]
      refine HL_nil ?_
      refine hK54 _ _ ?_
      rcases Bool.eq_false_or_eq_true (decide (x42 < (p0.length : Int))) with hb55 | hb55
      · replace H := iteT hb55 H
        refine HT_true (congrArg Value.bool hb55) ?_
        refine HT_skip ?_
        refine hK53 _ _ ?_
        refine HT_seq_k ?_
        intro K56 hK56
        refine HT_block ?_
        refine HT_region ?_
        refine HL_cons rfl ?_
        refine o_move ?_
        try dsimp only [putL, setL, evL, getL]
        refine HL_cons rfl ?_
        refine o_move ?_
        try dsimp only [putL, setL, evL, getL]
        refine HL_cons rfl ?_
        refine o_move ?_
        try dsimp only [putL, setL, evL, getL]
        refine HL_cons rfl ?_
        refine o_move ?_
        try dsimp only [putL, setL, evL, getL]
        obtain ⟨u57, hu57, H⟩ := headE H
        obtain ⟨b57, o57, cs57, hr57, hh57, hel57⟩ := Rd.elb HRp0 hu57
        obtain rfl := hr57
        refine HL_cons rfl ?_
        refine hel57 s52 rfl rfl Try.underlying22 tI3 ?_
        try dsimp only [putL, setL, evL, getL]
        refine HL_cons rfl ?_
        refine o_load' rfl Try.underlying3 rfl ((hh57 hH.bs.mono) 0 _ rfl) ?_
        try dsimp only [putL, setL, evL, getL]
        obtain ⟨u58, hu58, H⟩ := headE H
        obtain ⟨b58, o58, cs58, hA58, hr58, hh58, hel58⟩ := hH.elo 0 rfl hu58
        obtain rfl := hr58
        refine HL_cons rfl ?_
        refine hel58 s52 (sliceLen hl41) rfl Try.underlying22 tI3 ?_
        try dsimp only [putL, setL, evL, getL]
        obtain ⟨x59, hx59, H⟩ := headE H
        refine HL_cons rfl ?_
        refine o_setF (vs := [.int .i64 u57]) (u := u57) hH 0 rfl rfl rfl rfl rfl tI3 hA58 hx59 (Ent.own (Ent.flat rfl)) ?_
        intro s59 hH'
        have hl59 := (st?_len hx59).trans hl41
        replace hH : Hp sb s F0 s59 [Ck.ol OI 3 A3 c3 x59] := hH'
        clear hH'
        try dsimp only [putL, setL, evL, getL]
        refine HL_nil ?_
        refine hK56 _ _ ?_
        refine HT_region ?_
        refine HL_cons rfl ?_
        refine o_move ?_
        try dsimp only [putL, setL, evL, getL]
        refine HL_cons rfl ?_
        refine o_bin rfl rfl rfl ?_
        try dsimp only [putL, setL, evL, getL]
        refine HL_cons rfl ?_
        refine o_assign ?_
        try dsimp only [putL, setL, evL, getL]
        refine HL_nil ?_
        exact hK52 _ _ ⟨kf, Nat.lt_succ_self kf, x59, IntKind.i64.wrap (x42 + 1), H, rfl, hH, hl59⟩
      · replace H := iteF hb55 H
        refine HT_false (congrArg Value.bool hb55) ?_
        refine HT_exit ?_
        exact hK6 _ _ ⟨x41, H, rfl, hH, hl41⟩
  · rintro l' s60 ⟨x33, H, hl, hH, hl33⟩
    generalize getL l' 4 = j4, getL l' 8 = j8, getL l' 9 = j9, getL l' 10 = j10, getL l' 11 = j11, getL l' 12 = j12, getL l' 13 = j13, getL l' 14 = j14, getL l' 15 = j15, getL l' 16 = j16, getL l' 17 = j17, getL l' 18 = j18, getL l' 19 = j19, getL l' 20 = j20 at hl
    subst hl
    replace H := hG6 _ H
    try dsimp only at H
    refine hK4 _ _ ?_
    refine HT_seq_k ?_
    intro K61 hK61
    refine HT_region ?_
    refine HL_cons rfl ?_
    refine o_move ?_
    try dsimp only [putL, setL, evL, getL]
    refine HL_cons rfl ?_
    refine o_assign ?_
    try dsimp only [putL, setL, evL, getL]
    refine HL_nil ?_
    refine hK61 _ _ ?_
    refine HT_ret ?_
    obtain rfl := Option.some.inj (show some _ = some r from H)
    exact hQr _ _ [.slice A3 x3.length c3] ⟨rfl, trivial⟩ ⟨A3, c3, (by rw [hl33]; first | done | rfl), hH⟩
def laws_toScreen.f (p0_0 : Int) (p0_1 : Int) (p0_2 : List (Int)) (p0_3 : Int) (p0_4 : Int) : Option (Int × Int × (List (Int)) × Int × Int) := (laws_toIntS.f p0_2).bind fun u11 => some (p0_0, p0_1, u11, p0_3, p0_4)
def laws_toScreen.post (sb s : St) (F0 : Fp) (r : Int × Int × (List (Int)) × Int × Int) : Value → St → Prop := fun v s' => ∃ (A2 : Option Addr) (c2 : Nat), v = .agg #[.int .i64 r.1, .int .i64 r.2.1, .slice A2 r.2.2.1.length c2, .int .i64 r.2.2.2.1, .int .i64 r.2.2.2.2] ∧ Hp sb s F0 s' [Ck.ol OI 3 A2 c2 r.2.2.1]
set_option maxRecDepth 100000 in
set_option maxHeartbeats 4000000 in
theorem laws_toScreen.ok (sb s : St) (F0 : Fp) (p0_0 : Int) (p0_1 : Int) (A0_2p : Option Addr) (c0_2p : Nat) (p0_2 : List (Int)) (p0_3 : Int) (p0_4 : Int) (HRp0_2 : Rd KI sb A0_2p c0_2p p0_2) (hH : Hp sb s F0 s []) (r : Int × Int × (List (Int)) × Int × Int) (H : laws_toScreen.f p0_0 p0_1 p0_2 p0_3 p0_4 = some r) : GCall Try.prog 11 #[.agg #[.int .i64 p0_0, .int .i64 p0_1, .slice A0_2p p0_2.length c0_2p, .int .i64 p0_3, .int .i64 p0_4]] s (laws_toScreen.post sb s F0 r) := by
  refine GCall_ofk [.cell 2 27] [.agg #[.int .i64 p0_0, .int .i64 p0_1, .slice A0_2p p0_2.length c0_2p, .int .i64 p0_3, .int .i64 p0_4], undef, undef, undef, undef, undef, undef, undef, undef, undef, undef, undef, undef, undef, undef, undef, undef, undef, undef, undef, undef] Try.func11 rfl rfl rfl ?_
  intro w Q hQr hQn hQp
  replace H := topE H
  unfold laws_toScreen.f at H
  refine HT_seq_k ?_
  intro K1 hK1
  refine HT_region ?_
  refine HL_cons rfl ?_
  refine o_boxH hH rfl ?_
  intro b2 s2 hH' hG
  replace hH : Hp sb s F0 s2 [Ck.ov b2 [.int .i64 p0_0, .int .i64 p0_1, .slice A0_2p p0_2.length c0_2p, .int .i64 p0_3, .int .i64 p0_4] 24] := hH'
  clear hH' hG
  try dsimp only [putL, setL, evL, getL]
  refine HL_cons rfl ?_
  refine o_allocH hH tI27 ?_
  intro b3 s3 hH' hG
  replace hH : Hp sb s F0 s3 [Ck.ov b2 [.int .i64 p0_0, .int .i64 p0_1, .slice A0_2p p0_2.length c0_2p, .int .i64 p0_3, .int .i64 p0_4] 24, Ck.ov b3 [.int .i64 0, .int .i64 0, .slice none 0 0, .int .i64 0, .int .i64 0] 27] := hH'
  clear hH' hG
  try dsimp only [putL, setL, evL, getL]
  refine HL_nil ?_
  refine hK1 _ _ ?_
  refine HT_seq_k ?_
  intro K4 hK4
  refine HT_region ?_
  refine HL_cons rfl ?_
  refine o_allocH hH tI27 ?_
  intro b5 s5 hH' hG
  replace hH : Hp sb s F0 s5 [Ck.ov b2 [.int .i64 p0_0, .int .i64 p0_1, .slice A0_2p p0_2.length c0_2p, .int .i64 p0_3, .int .i64 p0_4] 24, Ck.ov b3 [.int .i64 0, .int .i64 0, .slice none 0 0, .int .i64 0, .int .i64 0] 27, Ck.ov b5 [.int .i64 0, .int .i64 0, .slice none 0 0, .int .i64 0, .int .i64 0] 27] := hH'
  clear hH' hG
  try dsimp only [putL, setL, evL, getL]
  refine HL_nil ?_
  refine hK4 _ _ ?_
  refine HT_seq_k ?_
  intro K6 hK6
  refine HT_region ?_
  refine HL_cons rfl ?_
  refine o_faddr' (ft := 3) (off := 0) rfl Try.underlying24 rfl tI3 (by decide) ?_
  try dsimp only [putL, setL, evL, getL]
  refine HL_cons rfl ?_
  refine o_load' rfl Try.underlying3 rfl (hH.hasv 0 rfl rfl) ?_
  try dsimp only [putL, setL, evL, getL]
  refine HL_cons rfl ?_
  refine o_faddr' (ft := 3) (off := 0) rfl Try.underlying27 rfl tI3 (by decide) ?_
  try dsimp only [putL, setL, evL, getL]
  refine HL_cons rfl ?_
  refine o_stvH (vs := [.int .i64 p0_0]) (us' := [.int .i64 p0_0, .int .i64 0, .slice none 0 0, .int .i64 0, .int .i64 0]) hH 2 rfl rfl rfl rfl rfl tI3 rfl (List.cons_ne_nil _ _) rfl rfl rfl ?_
  intro s7 hH'
  replace hH : Hp sb s F0 s7 [Ck.ov b2 [.int .i64 p0_0, .int .i64 p0_1, .slice A0_2p p0_2.length c0_2p, .int .i64 p0_3, .int .i64 p0_4] 24, Ck.ov b3 [.int .i64 0, .int .i64 0, .slice none 0 0, .int .i64 0, .int .i64 0] 27, Ck.ov b5 [.int .i64 p0_0, .int .i64 0, .slice none 0 0, .int .i64 0, .int .i64 0] 27] := hH'
  clear hH'
  try dsimp only [putL, setL, evL, getL]
  refine HL_nil ?_
  refine hK6 _ _ ?_
  refine HT_seq_k ?_
  intro K8 hK8
  refine HT_region ?_
  refine HL_cons rfl ?_
  refine o_faddr' (ft := 3) (off := 1) rfl Try.underlying24 rfl tI3 (by decide) ?_
  try dsimp only [putL, setL, evL, getL]
  refine HL_cons rfl ?_
  refine o_load' rfl Try.underlying3 rfl (hH.hasv 0 rfl rfl) ?_
  try dsimp only [putL, setL, evL, getL]
  refine HL_cons rfl ?_
  refine o_faddr' (ft := 3) (off := 1) rfl Try.underlying27 rfl tI3 (by decide) ?_
  try dsimp only [putL, setL, evL, getL]
  refine HL_cons rfl ?_
  refine o_stvH (vs := [.int .i64 p0_1]) (us' := [.int .i64 p0_0, .int .i64 p0_1, .slice none 0 0, .int .i64 0, .int .i64 0]) hH 2 rfl rfl rfl rfl rfl tI3 rfl (List.cons_ne_nil _ _) rfl rfl rfl ?_
  intro s9 hH'
  replace hH : Hp sb s F0 s9 [Ck.ov b2 [.int .i64 p0_0, .int .i64 p0_1, .slice A0_2p p0_2.length c0_2p, .int .i64 p0_3, .int .i64 p0_4] 24, Ck.ov b3 [.int .i64 0, .int .i64 0, .slice none 0 0, .int .i64 0, .int .i64 0] 27, Ck.ov b5 [.int .i64 p0_0, .int .i64 p0_1, .slice none 0 0, .int .i64 0, .int .i64 0] 27] := hH'
  clear hH'
  try dsimp only [putL, setL, evL, getL]
  refine HL_nil ?_
  refine hK8 _ _ ?_
  refine HT_seq_k ?_
  intro K10 hK10
  refine HT_region ?_
  refine HL_cons rfl ?_
  refine o_faddr' (ft := 22) (off := 2) rfl Try.underlying24 rfl tI22 (by decide) ?_
  try dsimp only [putL, setL, evL, getL]
  refine HL_cons rfl ?_
  refine o_load' rfl Try.underlying22 rfl (hH.hasv 0 rfl rfl) ?_
  try dsimp only [putL, setL, evL, getL]
  obtain ⟨u11, hu11, H⟩ := headE H
  refine HL_cons rfl ?_
  refine o_call (args := #[.slice A0_2p p0_2.length c0_2p]) Try.func15 rfl rfl rfl (laws_toIntS.ok sb s9 no A0_2p c0_2p p0_2 HRp0_2 (Hp.own hH.bs) _ hu11) ?_
  rintro _ s11 ⟨A12, c12, rfl, hD⟩
  replace hH := hH.back0 hD (Up.refl _ _ _)
  clear hD
  dsimp only [addC, setC, rmC, selC, getC] at hH
  try dsimp only [putL, setL, evL, getL]
  refine HL_cons rfl ?_
  refine o_faddr' (ft := 22) (off := 2) rfl Try.underlying27 rfl tI22 (by decide) ?_
  try dsimp only [putL, setL, evL, getL]
  refine HL_cons rfl ?_
  refine o_stvH (vs := [.slice A12 u11.length c12]) (us' := [.int .i64 p0_0, .int .i64 p0_1, .slice A12 u11.length c12, .int .i64 0, .int .i64 0]) hH 2 rfl rfl rfl rfl rfl tI22 rfl (List.cons_ne_nil _ _) rfl rfl rfl ?_
  intro s13 hH'
  replace hH : Hp sb s F0 s13 [Ck.ov b2 [.int .i64 p0_0, .int .i64 p0_1, .slice A0_2p p0_2.length c0_2p, .int .i64 p0_3, .int .i64 p0_4] 24, Ck.ov b3 [.int .i64 0, .int .i64 0, .slice none 0 0, .int .i64 0, .int .i64 0] 27, Ck.ov b5 [.int .i64 p0_0, .int .i64 p0_1, .slice A12 u11.length c12, .int .i64 0, .int .i64 0] 27, Ck.ol OI 3 A12 c12 u11] := hH'
  clear hH'
  try dsimp only [putL, setL, evL, getL]
  refine HL_nil ?_
  refine hK10 _ _ ?_
  refine HT_seq_k ?_
  intro K14 hK14
  refine HT_region ?_
  refine HL_cons rfl ?_
  refine o_faddr' (ft := 3) (off := 3) rfl Try.underlying24 rfl tI3 (by decide) ?_
  try dsimp only [putL, setL, evL, getL]
  refine HL_cons rfl ?_
  refine o_load' rfl Try.underlying3 rfl (hH.hasv 0 rfl rfl) ?_
  try dsimp only [putL, setL, evL, getL]
  refine HL_cons rfl ?_
  refine o_faddr' (ft := 3) (off := 3) rfl Try.underlying27 rfl tI3 (by decide) ?_
  try dsimp only [putL, setL, evL, getL]
  refine HL_cons rfl ?_
  refine o_stvH (vs := [.int .i64 p0_3]) (us' := [.int .i64 p0_0, .int .i64 p0_1, .slice A12 u11.length c12, .int .i64 p0_3, .int .i64 0]) hH 2 rfl rfl rfl rfl rfl tI3 rfl (List.cons_ne_nil _ _) rfl rfl rfl ?_
  intro s15 hH'
  replace hH : Hp sb s F0 s15 [Ck.ov b2 [.int .i64 p0_0, .int .i64 p0_1, .slice A0_2p p0_2.length c0_2p, .int .i64 p0_3, .int .i64 p0_4] 24, Ck.ov b3 [.int .i64 0, .int .i64 0, .slice none 0 0, .int .i64 0, .int .i64 0] 27, Ck.ov b5 [.int .i64 p0_0, .int .i64 p0_1, .slice A12 u11.length c12, .int .i64 p0_3, .int .i64 0] 27, Ck.ol OI 3 A12 c12 u11] := hH'
  clear hH'
  try dsimp only [putL, setL, evL, getL]
  refine HL_nil ?_
  refine hK14 _ _ ?_
  refine HT_seq_k ?_
  intro K16 hK16
  refine HT_region ?_
  refine HL_cons rfl ?_
  refine o_faddr' (ft := 3) (off := 4) rfl Try.underlying24 rfl tI3 (by decide) ?_
  try dsimp only [putL, setL, evL, getL]
  refine HL_cons rfl ?_
  refine o_load' rfl Try.underlying3 rfl (hH.hasv 0 rfl rfl) ?_
  try dsimp only [putL, setL, evL, getL]
  refine HL_cons rfl ?_
  refine o_faddr' (ft := 3) (off := 4) rfl Try.underlying27 rfl tI3 (by decide) ?_
  try dsimp only [putL, setL, evL, getL]
  refine HL_cons rfl ?_
  refine o_stvH (vs := [.int .i64 p0_4]) (us' := [.int .i64 p0_0, .int .i64 p0_1, .slice A12 u11.length c12, .int .i64 p0_3, .int .i64 p0_4]) hH 2 rfl rfl rfl rfl rfl tI3 rfl (List.cons_ne_nil _ _) rfl rfl rfl ?_
  intro s17 hH'
  replace hH : Hp sb s F0 s17 [Ck.ov b2 [.int .i64 p0_0, .int .i64 p0_1, .slice A0_2p p0_2.length c0_2p, .int .i64 p0_3, .int .i64 p0_4] 24, Ck.ov b3 [.int .i64 0, .int .i64 0, .slice none 0 0, .int .i64 0, .int .i64 0] 27, Ck.ov b5 [.int .i64 p0_0, .int .i64 p0_1, .slice A12 u11.length c12, .int .i64 p0_3, .int .i64 p0_4] 27, Ck.ol OI 3 A12 c12 u11] := hH'
  clear hH'
  try dsimp only [putL, setL, evL, getL]
  refine HL_nil ?_
  refine hK16 _ _ ?_
  refine HT_seq_k ?_
  intro K18 hK18
  refine HT_region ?_
  refine HL_cons rfl ?_
  refine o_loads' [.int .i64 p0_0, .int .i64 p0_1, .slice A12 u11.length c12, .int .i64 p0_3, .int .i64 p0_4] rfl Try.underlying27 rfl tI27 rfl (hH.partv 2 rfl (0) [.int .i64 p0_0, .int .i64 p0_1, .slice A12 u11.length c12, .int .i64 p0_3, .int .i64 p0_4] rfl) ?_
  try dsimp only [putL, setL, evL, getL]
  refine HL_cons rfl ?_
  refine o_stvH (vs := [.int .i64 p0_0, .int .i64 p0_1, .slice A12 u11.length c12, .int .i64 p0_3, .int .i64 p0_4]) (us' := [.int .i64 p0_0, .int .i64 p0_1, .slice A12 u11.length c12, .int .i64 p0_3, .int .i64 p0_4]) hH 1 rfl rfl rfl rfl rfl tI27 rfl (List.cons_ne_nil _ _) rfl rfl rfl ?_
  intro s19 hH'
  replace hH : Hp sb s F0 s19 [Ck.ov b2 [.int .i64 p0_0, .int .i64 p0_1, .slice A0_2p p0_2.length c0_2p, .int .i64 p0_3, .int .i64 p0_4] 24, Ck.ov b3 [.int .i64 p0_0, .int .i64 p0_1, .slice A12 u11.length c12, .int .i64 p0_3, .int .i64 p0_4] 27, Ck.ov b5 [.int .i64 p0_0, .int .i64 p0_1, .slice A12 u11.length c12, .int .i64 p0_3, .int .i64 p0_4] 27, Ck.ol OI 3 A12 c12 u11] := hH'
  clear hH'
  try dsimp only [putL, setL, evL, getL]
  refine HL_nil ?_
  refine hK18 _ _ ?_
  refine HT_ret ?_
  obtain rfl := Option.some.inj (show some _ = some r from H)
  exact hQr _ _ [.agg #[.int .i64 p0_0, .int .i64 p0_1, .slice A12 u11.length c12, .int .i64 p0_3, .int .i64 p0_4]] ⟨ResV.cells rfl Try.underlying27 rfl tI27 (hH.var 1 rfl) rfl, trivial⟩ ⟨A12, c12, rfl, hH.sel [3] (by decide)⟩
def spec_l1In.f (p0 : Int) (p1 : Int) (p2 : Int) : Option Bool := if (decide (p0 ≥ p1)) = true then (some (decide (p0 ≤ p2))) else (some false)
def spec_l1In.post (sb s : St) (F0 : Fp) (r : Bool) : Value → St → Prop := fun v s' => v = .bool r ∧ Hp sb s F0 s' []
set_option maxRecDepth 100000 in
set_option maxHeartbeats 4000000 in
theorem spec_l1In.ok (sb s : St) (F0 : Fp) (p0 : Int) (p1 : Int) (p2 : Int) (hH : Hp sb s F0 s []) (r : Bool) (H : spec_l1In.f p0 p1 p2 = some r) : GCall Try.prog 31 #[.int .i64 p0, .int .i64 p1, .int .i64 p2] s (spec_l1In.post sb s F0 r) := by
  refine GCall_ofk [.tmp 6] [.int .i64 p0, .int .i64 p1, .int .i64 p2, undef, undef, undef, undef, undef, undef, undef, undef, undef, undef, undef, undef] Try.func31 rfl rfl rfl ?_
  intro w Q hQr hQn hQp
  replace H := topE H
  unfold spec_l1In.f at H
  refine HT_seq_k ?_
  intro K1 hK1
  refine HT_region ?_
  refine HL_cons rfl ?_
  refine o_assign ?_
  try dsimp only [putL, setL, evL, getL]
  refine HL_nil ?_
  refine hK1 _ _ ?_
  refine HT_seq_k ?_
  intro K2 hK2
  refine HT_region ?_
  refine HL_cons rfl ?_
  refine o_move ?_
  try dsimp only [putL, setL, evL, getL]
  refine HL_cons rfl ?_
  refine o_move ?_
  try dsimp only [putL, setL, evL, getL]
  refine HL_cons rfl ?_
  refine o_bin rfl rfl rfl ?_
  try dsimp only [putL, setL, evL, getL]
  refine HL_cons rfl ?_
  refine o_move ?_
  try dsimp only [putL, setL, evL, getL]
  rcases Bool.eq_false_or_eq_true (decide (p0 ≥ p1)) with hb3 | hb3
  · replace H := iteT hb3 H
    refine HL_want ?_ ?_
    · exact wantT (j := 3) (b := true) (t := 10) (c := decide (p0 ≥ p1)) rfl rfl rfl rfl hb3
    refine o_move ?_
    try dsimp only [putL, setL, evL, getL]
    refine HL_want ?_ ?_
    · exact wantT (j := 3) (b := true) (t := 10) (c := decide (p0 ≥ p1)) rfl rfl rfl rfl hb3
    refine o_move ?_
    try dsimp only [putL, setL, evL, getL]
    refine HL_want ?_ ?_
    · exact wantT (j := 3) (b := true) (t := 10) (c := decide (p0 ≥ p1)) rfl rfl rfl rfl hb3
    refine o_bin rfl rfl rfl ?_
    try dsimp only [putL, setL, evL, getL]
    refine HL_cons rfl ?_
    refine o_pickT rfl hb3 ?_
    try dsimp only [putL, setL, evL, getL]
    refine HL_cons rfl ?_
    refine o_assign ?_
    try dsimp only [putL, setL, evL, getL]
    refine HL_nil ?_
    refine hK2 _ _ ?_
    refine HT_ret ?_
    obtain rfl := Option.some.inj (show some _ = some r from H)
    exact hQr _ _ [.bool (decide (p0 ≤ p2))] ⟨rfl, trivial⟩ ⟨rfl, hH⟩
  · replace H := iteF hb3 H
    refine HL_skip ?_ ?_
    · exact wantF (j := 3) (b := true) (t := 10) (c := decide (p0 ≥ p1)) rfl rfl rfl rfl hb3
    try dsimp only [putL, setL, evL, getL]
    refine HL_skip ?_ ?_
    · exact wantF (j := 3) (b := true) (t := 10) (c := decide (p0 ≥ p1)) rfl rfl rfl rfl hb3
    try dsimp only [putL, setL, evL, getL]
    refine HL_skip ?_ ?_
    · exact wantF (j := 3) (b := true) (t := 10) (c := decide (p0 ≥ p1)) rfl rfl rfl rfl hb3
    try dsimp only [putL, setL, evL, getL]
    refine HL_cons rfl ?_
    refine o_pickF rfl hb3 ?_
    try dsimp only [putL, setL, evL, getL]
    refine HL_cons rfl ?_
    refine o_assign ?_
    try dsimp only [putL, setL, evL, getL]
    refine HL_nil ?_
    refine hK2 _ _ ?_
    refine HT_ret ?_
    obtain rfl := Option.some.inj (show some _ = some r from H)
    exact hQr _ _ [.bool false] ⟨rfl, trivial⟩ ⟨rfl, hH⟩
def spec_GoodRune.f (p0 : Int) : Option Bool := (spec_l1In.f p0 0 1114111).bind fun u3 => if u3 = true then ((spec_l1In.f p0 55296 57343).bind fun u5 => some (!u5)) else (some false)
def spec_GoodRune.post (sb s : St) (F0 : Fp) (r : Bool) : Value → St → Prop := fun v s' => v = .bool r ∧ Hp sb s F0 s' []
set_option maxRecDepth 100000 in
set_option maxHeartbeats 4000000 in
theorem spec_GoodRune.ok (sb s : St) (F0 : Fp) (p0 : Int) (hH : Hp sb s F0 s []) (r : Bool) (H : spec_GoodRune.f p0 = some r) : GCall Try.prog 55 #[.int .i64 p0] s (spec_GoodRune.post sb s F0 r) := by
  refine GCall_ofk [.tmp 2] [.int .i64 p0, undef, undef, undef, undef, undef, undef, undef, undef, undef] Try.func55 rfl rfl rfl ?_
  intro w Q hQr hQn hQp
  replace H := topE H
  unfold spec_GoodRune.f at H
  refine HT_seq_k ?_
  intro K1 hK1
  refine HT_region ?_
  refine HL_cons rfl ?_
  refine o_assign ?_
  try dsimp only [putL, setL, evL, getL]
  refine HL_nil ?_
  refine hK1 _ _ ?_
  refine HT_seq_k ?_
  intro K2 hK2
  refine HT_region ?_
  refine HL_cons rfl ?_
  refine o_move ?_
  try dsimp only [putL, setL, evL, getL]
  obtain ⟨u3, hu3, H⟩ := headE H
  refine HL_cons rfl ?_
  refine o_call (args := #[.int .i64 p0, .int .i64 0, .int .i64 1114111]) Try.func31 rfl rfl rfl (spec_l1In.ok sb s no p0 0 1114111 (Hp.own hH.bs) _ hu3) ?_
  rintro _ s3 ⟨rfl, hD⟩
  replace hH := hH.back0 hD (Up.refl _ _ _)
  clear hD
  dsimp only [addC, setC, rmC, selC, getC] at hH
  try dsimp only [putL, setL, evL, getL]
  refine HL_cons rfl ?_
  refine o_move ?_
  try dsimp only [putL, setL, evL, getL]
  rcases Bool.eq_false_or_eq_true u3 with hb4 | hb4
  · replace H := iteT hb4 H
    refine HL_want ?_ ?_
    · exact wantT (j := 2) (b := true) (t := 5) (c := u3) rfl rfl rfl rfl hb4
    refine o_move ?_
    try dsimp only [putL, setL, evL, getL]
    obtain ⟨u5, hu5, H⟩ := headE H
    refine HL_want ?_ ?_
    · exact wantT (j := 2) (b := true) (t := 5) (c := u3) rfl rfl rfl rfl hb4
    refine o_call (args := #[.int .i64 p0, .int .i64 55296, .int .i64 57343]) Try.func31 rfl rfl rfl (spec_l1In.ok sb s3 no p0 55296 57343 (Hp.own hH.bs) _ hu5) ?_
    rintro _ s5 ⟨rfl, hD⟩
    replace hH := hH.back0 hD (Up.refl _ _ _)
    clear hD
    dsimp only [addC, setC, rmC, selC, getC] at hH
    try dsimp only [putL, setL, evL, getL]
    refine HL_want ?_ ?_
    · exact wantT (j := 2) (b := true) (t := 5) (c := u3) rfl rfl rfl rfl hb4
    refine o_not rfl ?_
    try dsimp only [putL, setL, evL, getL]
    refine HL_cons rfl ?_
    refine o_pickT rfl hb4 ?_
    try dsimp only [putL, setL, evL, getL]
    refine HL_cons rfl ?_
    refine o_assign ?_
    try dsimp only [putL, setL, evL, getL]
    refine HL_nil ?_
    refine hK2 _ _ ?_
    refine HT_ret ?_
    obtain rfl := Option.some.inj (show some _ = some r from H)
    exact hQr _ _ [.bool (!u5)] ⟨rfl, trivial⟩ ⟨rfl, hH⟩
  · replace H := iteF hb4 H
    refine HL_skip ?_ ?_
    · exact wantF (j := 2) (b := true) (t := 5) (c := u3) rfl rfl rfl rfl hb4
    try dsimp only [putL, setL, evL, getL]
    refine HL_skip ?_ ?_
    · exact wantF (j := 2) (b := true) (t := 5) (c := u3) rfl rfl rfl rfl hb4
    try dsimp only [putL, setL, evL, getL]
    refine HL_skip ?_ ?_
    · exact wantF (j := 2) (b := true) (t := 5) (c := u3) rfl rfl rfl rfl hb4
    try dsimp only [putL, setL, evL, getL]
    refine HL_cons rfl ?_
    refine o_pickF rfl hb4 ?_
    try dsimp only [putL, setL, evL, getL]
    refine HL_cons rfl ?_
    refine o_assign ?_
    try dsimp only [putL, setL, evL, getL]
    refine HL_nil ?_
    refine hK2 _ _ ?_
    refine HT_ret ?_
    obtain rfl := Option.some.inj (show some _ = some r from H)
    exact hQr _ _ [.bool false] ⟨rfl, trivial⟩ ⟨rfl, hH⟩
def spec_l1AllRunes.l1 (p0 : List (Int)) : Nat → Int → Option (Lo Unit Bool)
  | 0, _ => none
  | kf + 1, x48 => if (decide (x48 < (p0.length : Int))) = true then ((rd? p0 x48).bind fun u66 => (spec_GoodRune.f u66).bind fun u68 => if (!u68) = true then ((some false).bind fun z => some (Lo.ret z)) else (spec_l1AllRunes.l1 p0 kf (IntKind.i64.wrap (x48 + 1)))) else (some (Lo.go ()))
def spec_l1AllRunes.f (p0 : List (Int)) : Option Bool := (spec_l1AllRunes.l1 p0 ((((p0.length : Int)) - (0)).toNat + 2) 0).bind fun (o : Lo Unit Bool) => match o with | .go () => (some (decide ((p0.length : Int) ≤ 1000))) | .ret z => some z
def spec_l1AllRunes.post (sb s : St) (F0 : Fp) (r : Bool) : Value → St → Prop := fun v s' => v = .bool r ∧ Hp sb s F0 s' []
set_option maxRecDepth 100000 in
set_option maxHeartbeats 4000000 in
theorem spec_l1AllRunes.ok (sb s : St) (F0 : Fp) (A0p : Option Addr) (c0p : Nat) (p0 : List (Int)) (HRp0 : Rd KI sb A0p c0p p0) (hH : Hp sb s F0 s []) (r : Bool) (H : spec_l1AllRunes.f p0 = some r) : GCall Try.prog 32 #[.slice A0p p0.length c0p] s (spec_l1AllRunes.post sb s F0 r) := by
  refine GCall_ofk [.tmp 2] [.slice A0p p0.length c0p, undef, undef, undef, undef, undef, undef, undef, undef, undef, undef, undef, undef, undef, undef, undef, undef, undef] Try.func32 rfl rfl rfl ?_
  intro w Q hQr hQn hQp
  replace H := topE H
  unfold spec_l1AllRunes.f at H
  refine HT_seq_k ?_
  intro K1 hK1
  refine HT_region ?_
  refine HL_cons rfl ?_
  refine o_assign ?_
  try dsimp only [putL, setL, evL, getL]
  refine HL_nil ?_
  refine hK1 _ _ ?_
  refine HT_seq_k ?_
  intro K2 hK2
  refine HT_seq_k ?_
  intro K3 hK3
  refine HT_region ?_
  refine HL_cons rfl ?_
  refine o_move ?_
  try dsimp only [putL, setL, evL, getL]
  refine HL_cons rfl ?_
  refine o_len rfl Try.underlying22 ?_
  try dsimp only [putL, setL, evL, getL]
  refine HL_cons rfl ?_
  refine o_move ?_
  try dsimp only [putL, setL, evL, getL]
  refine HL_nil ?_
  refine hK3 _ _ ?_
  refine joinH H fun G4 hG4 H => ?_
  refine HT_toK (fun l' s' => G4 (.go ()) = some r ∧ l' = [.slice A0p p0.length c0p, undef, getL l' 2, undef, getL l' 4, .slice A0p p0.length c0p, .int .i64 (p0.length : Int), getL l' 7, getL l' 8, getL l' 9, getL l' 10, getL l' 11, getL l' 12, getL l' 13, getL l' 14, undef, undef, undef] ∧ Hp sb s F0 s' []) ?_ ?_
  · intro K4 hK4
    refine HT_block ?_
    refine HT_loopK (fun kf l' s' => ∃ (x48 : Int), (spec_l1AllRunes.l1 p0 kf x48).bind G4 = some r ∧ l' = [.slice A0p p0.length c0p, undef, getL l' 2, undef, getL l' 4, .slice A0p p0.length c0p, .int .i64 (p0.length : Int), .int .i64 x48, getL l' 8, getL l' 9, getL l' 10, getL l' 11, getL l' 12, getL l' 13, getL l' 14, undef, undef, undef] ∧ Hp sb s F0 s' []) ((((p0.length : Int)) - (0)).toNat + 2) ⟨0, H, rfl, hH⟩ ?_
    rintro kf l' s60 ⟨x48, H, hl, hH⟩ K60 hK60
    generalize getL l' 2 = j2, getL l' 4 = j4, getL l' 8 = j8, getL l' 9 = j9, getL l' 10 = j10, getL l' 11 = j11, getL l' 12 = j12, getL l' 13 = j13, getL l' 14 = j14 at hl
    subst hl
    cases kf with
    | zero => simp [spec_l1AllRunes.l1] at H
    | succ kf =>
      rw [spec_l1AllRunes.l1] at H
      refine HT_seq_k ?_
      intro K61 hK61
      refine HT_region ?_
      refine HL_cons rfl ?_
      refine o_bin rfl rfl rfl ?_
      try dsimp only [putL, setL, evL, getL]
      refine HL_nil ?_
      refine hK61 _ _ ?_
      refine HT_seq_k ?_
      intro K62 hK62
      rcases Bool.eq_false_or_eq_true (decide (x48 < (p0.length : Int))) with hb63 | hb63
      · replace H := iteT hb63 H
        refine HT_true (congrArg Value.bool hb63) ?_
        refine HT_skip ?_
        refine hK62 _ _ ?_
        refine HT_seq_k ?_
        intro K64 hK64
        refine HT_block ?_
        refine HT_seq_k ?_
        intro K65 hK65
        refine HT_region ?_
        obtain ⟨u66, hu66, H⟩ := headE H
        obtain ⟨b66, o66, cs66, hr66, hh66, hel66⟩ := Rd.elb HRp0 hu66
        obtain rfl := hr66
        refine HL_cons rfl ?_
        refine hel66 s60 rfl rfl Try.underlying22 tI3 ?_
        try dsimp only [putL, setL, evL, getL]
        refine HL_cons rfl ?_
        refine o_load' rfl Try.underlying3 rfl ((hh66 hH.bs.mono) 0 _ rfl) ?_
        try dsimp only [putL, setL, evL, getL]
        refine HL_cons rfl ?_
        refine o_assign ?_
        try dsimp only [putL, setL, evL, getL]
        refine HL_nil ?_
        refine hK65 _ _ ?_
        refine HT_seq_k ?_
        intro K67 hK67
        refine HT_region ?_
        refine HL_cons rfl ?_
        refine o_move ?_
        try dsimp only [putL, setL, evL, getL]
        obtain ⟨u68, hu68, H⟩ := headE H
        refine HL_cons rfl ?_
        refine o_call (args := #[.int .i64 u66]) Try.func55 rfl rfl rfl (spec_GoodRune.ok sb s60 no u66 (Hp.own hH.bs) _ hu68) ?_
        rintro _ s68 ⟨rfl, hD⟩
        replace hH := hH.back0 hD (Up.refl _ _ _)
        clear hD
        dsimp only [addC, setC, rmC, selC, getC] at hH
        try dsimp only [putL, setL, evL, getL]
        refine HL_cons rfl ?_
        refine o_not rfl ?_
        try dsimp only [putL, setL, evL, getL]
        refine HL_nil ?_
        refine hK67 _ _ ?_
        rcases Bool.eq_false_or_eq_true (!u68) with hb69 | hb69
        · replace H := iteT hb69 H
          refine HT_true (congrArg Value.bool hb69) ?_
          refine HT_seq_k ?_
          intro K70 hK70
          refine HT_region ?_
          refine HL_cons rfl ?_
          refine o_assign ?_
          try dsimp only [putL, setL, evL, getL]
          refine HL_nil ?_
          refine hK70 _ _ ?_
          refine HT_ret ?_
          replace H := escH (fun z hz => hG4 _ hz) H
          obtain rfl := Option.some.inj (show some _ = some r from H)
          exact hQr _ _ [.bool false] ⟨rfl, trivial⟩ ⟨rfl, hH⟩
        · replace H := iteF hb69 H
          refine HT_false (congrArg Value.bool hb69) ?_
          refine HT_skip ?_
          refine hK64 _ _ ?_
          refine HT_region ?_
          refine HL_cons rfl ?_
          refine o_bin rfl rfl rfl ?_
          try dsimp only [putL, setL, evL, getL]
          refine HL_cons rfl ?_
          refine o_move ?_
          try dsimp only [putL, setL, evL, getL]
          refine HL_nil ?_
          exact hK60 _ _ ⟨kf, Nat.lt_succ_self kf, IntKind.i64.wrap (x48 + 1), H, rfl, hH⟩
      · replace H := iteF hb63 H
        refine HT_false (congrArg Value.bool hb63) ?_
        refine HT_exit ?_
        exact hK4 _ _ ⟨H, rfl, hH⟩
  · rintro l' s71 ⟨H, hl, hH⟩
    generalize getL l' 2 = j2, getL l' 4 = j4, getL l' 7 = j7, getL l' 8 = j8, getL l' 9 = j9, getL l' 10 = j10, getL l' 11 = j11, getL l' 12 = j12, getL l' 13 = j13, getL l' 14 = j14 at hl
    subst hl
    replace H := hG4 _ H
    try dsimp only at H
    refine hK2 _ _ ?_
    refine HT_seq_k ?_
    intro K72 hK72
    refine HT_region ?_
    refine HL_cons rfl ?_
    refine o_move ?_
    try dsimp only [putL, setL, evL, getL]
    refine HL_cons rfl ?_
    refine o_len rfl Try.underlying22 ?_
    try dsimp only [putL, setL, evL, getL]
    refine HL_cons rfl ?_
    refine o_bin rfl rfl rfl ?_
    try dsimp only [putL, setL, evL, getL]
    refine HL_cons rfl ?_
    refine o_assign ?_
    try dsimp only [putL, setL, evL, getL]
    refine HL_nil ?_
    refine hK72 _ _ ?_
    refine HT_ret ?_
    obtain rfl := Option.some.inj (show some _ = some r from H)
    exact hQr _ _ [.bool (decide ((p0.length : Int) ≤ 1000))] ⟨rfl, trivial⟩ ⟨rfl, hH⟩
def spec_l1All.l1 (p0 : List (Int)) (p1 : Int) (p2 : Int) : Nat → Int → Option (Lo Unit Bool)
  | 0, _ => none
  | kf + 1, x48 => if (decide (x48 < (p0.length : Int))) = true then ((rd? p0 x48).bind fun u66 => (spec_l1In.f u66 p1 p2).bind fun u68 => if (!u68) = true then ((some false).bind fun z => some (Lo.ret z)) else (spec_l1All.l1 p0 p1 p2 kf (IntKind.i64.wrap (x48 + 1)))) else (some (Lo.go ()))
def spec_l1All.f (p0 : List (Int)) (p1 : Int) (p2 : Int) : Option Bool := (spec_l1All.l1 p0 p1 p2 ((((p0.length : Int)) - (0)).toNat + 2) 0).bind fun (o : Lo Unit Bool) => match o with | .go () => (some true) | .ret z => some z
def spec_l1All.post (sb s : St) (F0 : Fp) (r : Bool) : Value → St → Prop := fun v s' => v = .bool r ∧ Hp sb s F0 s' []
set_option maxRecDepth 100000 in
set_option maxHeartbeats 4000000 in
theorem spec_l1All.ok (sb s : St) (F0 : Fp) (A0p : Option Addr) (c0p : Nat) (p0 : List (Int)) (p1 : Int) (p2 : Int) (HRp0 : Rd KI sb A0p c0p p0) (hH : Hp sb s F0 s []) (r : Bool) (H : spec_l1All.f p0 p1 p2 = some r) : GCall Try.prog 33 #[.slice A0p p0.length c0p, .int .i64 p1, .int .i64 p2] s (spec_l1All.post sb s F0 r) := by
  refine GCall_ofk [.tmp 6] [.slice A0p p0.length c0p, .int .i64 p1, .int .i64 p2, undef, undef, undef, undef, undef, undef, undef, undef, undef, undef, undef, undef, undef, undef, undef, undef, undef, undef] Try.func33 rfl rfl rfl ?_
  intro w Q hQr hQn hQp
  replace H := topE H
  unfold spec_l1All.f at H
  refine HT_seq_k ?_
  intro K1 hK1
  refine HT_region ?_
  refine HL_cons rfl ?_
  refine o_assign ?_
  try dsimp only [putL, setL, evL, getL]
  refine HL_nil ?_
  refine hK1 _ _ ?_
  refine HT_seq_k ?_
  intro K2 hK2
  refine HT_seq_k ?_
  intro K3 hK3
  refine HT_region ?_
  refine HL_cons rfl ?_
  refine o_move ?_
  try dsimp only [putL, setL, evL, getL]
  refine HL_cons rfl ?_
  refine o_len rfl Try.underlying22 ?_
  try dsimp only [putL, setL, evL, getL]
  refine HL_cons rfl ?_
  refine o_move ?_
  try dsimp only [putL, setL, evL, getL]
  refine HL_nil ?_
  refine hK3 _ _ ?_
  refine joinH H fun G4 hG4 H => ?_
  refine HT_toK (fun l' s' => G4 (.go ()) = some r ∧ l' = [.slice A0p p0.length c0p, .int .i64 p1, .int .i64 p2, undef, undef, undef, getL l' 6, undef, getL l' 8, .slice A0p p0.length c0p, .int .i64 (p0.length : Int), getL l' 11, getL l' 12, getL l' 13, getL l' 14, getL l' 15, getL l' 16, getL l' 17, getL l' 18, getL l' 19, getL l' 20] ∧ Hp sb s F0 s' []) ?_ ?_
  · intro K4 hK4
    refine HT_block ?_
    refine HT_loopK (fun kf l' s' => ∃ (x48 : Int), (spec_l1All.l1 p0 p1 p2 kf x48).bind G4 = some r ∧ l' = [.slice A0p p0.length c0p, .int .i64 p1, .int .i64 p2, undef, undef, undef, getL l' 6, undef, getL l' 8, .slice A0p p0.length c0p, .int .i64 (p0.length : Int), .int .i64 x48, getL l' 12, getL l' 13, getL l' 14, getL l' 15, getL l' 16, getL l' 17, getL l' 18, getL l' 19, getL l' 20] ∧ Hp sb s F0 s' []) ((((p0.length : Int)) - (0)).toNat + 2) ⟨0, H, rfl, hH⟩ ?_
    rintro kf l' s60 ⟨x48, H, hl, hH⟩ K60 hK60
    generalize getL l' 6 = j6, getL l' 8 = j8, getL l' 12 = j12, getL l' 13 = j13, getL l' 14 = j14, getL l' 15 = j15, getL l' 16 = j16, getL l' 17 = j17, getL l' 18 = j18, getL l' 19 = j19, getL l' 20 = j20 at hl
    subst hl
    cases kf with
    | zero => simp [spec_l1All.l1] at H
    | succ kf =>
      rw [spec_l1All.l1] at H
      refine HT_seq_k ?_
      intro K61 hK61
      refine HT_region ?_
      refine HL_cons rfl ?_
      refine o_bin rfl rfl rfl ?_
      try dsimp only [putL, setL, evL, getL]
      refine HL_nil ?_
      refine hK61 _ _ ?_
      refine HT_seq_k ?_
      intro K62 hK62
      rcases Bool.eq_false_or_eq_true (decide (x48 < (p0.length : Int))) with hb63 | hb63
      · replace H := iteT hb63 H
        refine HT_true (congrArg Value.bool hb63) ?_
        refine HT_skip ?_
        refine hK62 _ _ ?_
        refine HT_seq_k ?_
        intro K64 hK64
        refine HT_block ?_
        refine HT_seq_k ?_
        intro K65 hK65
        refine HT_region ?_
        obtain ⟨u66, hu66, H⟩ := headE H
        obtain ⟨b66, o66, cs66, hr66, hh66, hel66⟩ := Rd.elb HRp0 hu66
        obtain rfl := hr66
        refine HL_cons rfl ?_
        refine hel66 s60 rfl rfl Try.underlying22 tI3 ?_
        try dsimp only [putL, setL, evL, getL]
        refine HL_cons rfl ?_
        refine o_load' rfl Try.underlying3 rfl ((hh66 hH.bs.mono) 0 _ rfl) ?_
        try dsimp only [putL, setL, evL, getL]
        refine HL_cons rfl ?_
        refine o_assign ?_
        try dsimp only [putL, setL, evL, getL]
        refine HL_nil ?_
        refine hK65 _ _ ?_
        refine HT_seq_k ?_
        intro K67 hK67
        refine HT_region ?_
        refine HL_cons rfl ?_
        refine o_move ?_
        try dsimp only [putL, setL, evL, getL]
        refine HL_cons rfl ?_
        refine o_move ?_
        try dsimp only [putL, setL, evL, getL]
        refine HL_cons rfl ?_
        refine o_move ?_
        try dsimp only [putL, setL, evL, getL]
        obtain ⟨u68, hu68, H⟩ := headE H
        refine HL_cons rfl ?_
        refine o_call (args := #[.int .i64 u66, .int .i64 p1, .int .i64 p2]) Try.func31 rfl rfl rfl (spec_l1In.ok sb s60 no u66 p1 p2 (Hp.own hH.bs) _ hu68) ?_
        rintro _ s68 ⟨rfl, hD⟩
        replace hH := hH.back0 hD (Up.refl _ _ _)
        clear hD
        dsimp only [addC, setC, rmC, selC, getC] at hH
        try dsimp only [putL, setL, evL, getL]
        refine HL_cons rfl ?_
        refine o_not rfl ?_
        try dsimp only [putL, setL, evL, getL]
        refine HL_nil ?_
        refine hK67 _ _ ?_
        rcases Bool.eq_false_or_eq_true (!u68) with hb69 | hb69
        · replace H := iteT hb69 H
          refine HT_true (congrArg Value.bool hb69) ?_
          refine HT_seq_k ?_
          intro K70 hK70
          refine HT_region ?_
          refine HL_cons rfl ?_
          refine o_assign ?_
          try dsimp only [putL, setL, evL, getL]
          refine HL_nil ?_
          refine hK70 _ _ ?_
          refine HT_ret ?_
          replace H := escH (fun z hz => hG4 _ hz) H
          obtain rfl := Option.some.inj (show some _ = some r from H)
          exact hQr _ _ [.bool false] ⟨rfl, trivial⟩ ⟨rfl, hH⟩
        · replace H := iteF hb69 H
          refine HT_false (congrArg Value.bool hb69) ?_
          refine HT_skip ?_
          refine hK64 _ _ ?_
          refine HT_region ?_
          refine HL_cons rfl ?_
          refine o_bin rfl rfl rfl ?_
          try dsimp only [putL, setL, evL, getL]
          refine HL_cons rfl ?_
          refine o_move ?_
          try dsimp only [putL, setL, evL, getL]
          refine HL_nil ?_
          exact hK60 _ _ ⟨kf, Nat.lt_succ_self kf, IntKind.i64.wrap (x48 + 1), H, rfl, hH⟩
      · replace H := iteF hb63 H
        refine HT_false (congrArg Value.bool hb63) ?_
        refine HT_exit ?_
        exact hK4 _ _ ⟨H, rfl, hH⟩
  · rintro l' s71 ⟨H, hl, hH⟩
    generalize getL l' 6 = j6, getL l' 8 = j8, getL l' 11 = j11, getL l' 12 = j12, getL l' 13 = j13, getL l' 14 = j14, getL l' 15 = j15, getL l' 16 = j16, getL l' 17 = j17, getL l' 18 = j18, getL l' 19 = j19, getL l' 20 = j20 at hl
    subst hl
    replace H := hG4 _ H
    try dsimp only at H
    refine hK2 _ _ ?_
    refine HT_seq_k ?_
    intro K72 hK72
    refine HT_region ?_
    refine HL_cons rfl ?_
    refine o_assign ?_
    try dsimp only [putL, setL, evL, getL]
    refine HL_nil ?_
    refine hK72 _ _ ?_
    refine HT_ret ?_
    obtain rfl := Option.some.inj (show some _ = some r from H)
    exact hQr _ _ [.bool true] ⟨rfl, trivial⟩ ⟨rfl, hH⟩
def spec_GoodScreen.f (p0_0 : Int) (p0_1 : Int) (p0_2 : List (Int)) (p0_3 : Int) (p0_4 : Int) : Option Bool := ((spec_l1In.f p0_0 1 20).bind fun u36 => if (!u36) = true then (some true) else ((spec_l1In.f p0_1 1 8).bind fun u38 => if (!u38) = true then (some true) else ((spec_l1In.f p0_3 0 p0_0).bind fun u40 => if (!u40) = true then (some true) else ((spec_l1In.f p0_4 0 (IntKind.i64.wrap (p0_1 - 1))).bind fun u42 => if (!u42) = true then (some true) else (some ((p0_2.length : Int) != (IntKind.i64.wrap (p0_0 * p0_1)))))))).bind fun (o : Bool) => match o with | x35 => (if x35 = true then (some false) else ((spec_l1AllRunes.f p0_2).bind fun u48 => if u48 = true then ((spec_l1All.f p0_2 32 1114111).bind fun u50 => some u50) else (some false)))
def spec_GoodScreen.post (sb s : St) (F0 : Fp) (r : Bool) : Value → St → Prop := fun v s' => v = .bool r ∧ Hp sb s F0 s' []
set_option maxRecDepth 100000 in
set_option maxHeartbeats 4000000 in
theorem spec_GoodScreen.ok (sb s : St) (F0 : Fp) (p0_0 : Int) (p0_1 : Int) (A0_2p : Option Addr) (c0_2p : Nat) (p0_2 : List (Int)) (p0_3 : Int) (p0_4 : Int) (HRp0_2 : Rd KI sb A0_2p c0_2p p0_2) (hH : Hp sb s F0 s []) (r : Bool) (H : spec_GoodScreen.f p0_0 p0_1 p0_2 p0_3 p0_4 = some r) : GCall Try.prog 10 #[.agg #[.int .i64 p0_0, .int .i64 p0_1, .slice A0_2p p0_2.length c0_2p, .int .i64 p0_3, .int .i64 p0_4]] s (spec_GoodScreen.post sb s F0 r) := by
  refine GCall_ofk [.tmp 2] [.agg #[.int .i64 p0_0, .int .i64 p0_1, .slice A0_2p p0_2.length c0_2p, .int .i64 p0_3, .int .i64 p0_4], undef, undef, undef, undef, undef, undef, undef, undef, undef, undef, undef, undef, undef, undef, undef, undef, undef, undef, undef, undef, undef, undef, undef, undef, undef, undef, undef, undef, undef, undef, undef, undef, undef, undef, undef, undef, undef, undef, undef, undef, undef, undef, undef, undef, undef, undef, undef, undef] Try.func10 rfl rfl rfl ?_
  intro w Q hQr hQn hQp
  replace H := topE H
  unfold spec_GoodScreen.f at H
  refine HT_seq_k ?_
  intro K1 hK1
  refine HT_region ?_
  refine HL_cons rfl ?_
  refine o_boxH hH rfl ?_
  intro b2 s2 hH' hG
  replace hH : Hp sb s F0 s2 [Ck.ov b2 [.int .i64 p0_0, .int .i64 p0_1, .slice A0_2p p0_2.length c0_2p, .int .i64 p0_3, .int .i64 p0_4] 27] := hH'
  clear hH' hG
  try dsimp only [putL, setL, evL, getL]
  refine HL_cons rfl ?_
  refine o_assign ?_
  try dsimp only [putL, setL, evL, getL]
  refine HL_nil ?_
  refine hK1 _ _ ?_
  refine HT_seq_k ?_
  intro K25 hK25
  refine joinH H fun G26 hG26 H => ?_
  refine HT_joinK (fun l' s' => ∃ (x35 : Bool), G26 x35 = some r ∧ l' = [.agg #[.int .i64 p0_0, .int .i64 p0_1, .slice A0_2p p0_2.length c0_2p, .int .i64 p0_3, .int .i64 p0_4], .pointer (some ⟨b2, 0, none⟩), .bool false, getL l' 3, getL l' 4, getL l' 5, getL l' 6, getL l' 7, getL l' 8, getL l' 9, getL l' 10, getL l' 11, getL l' 12, getL l' 13, getL l' 14, getL l' 15, getL l' 16, getL l' 17, getL l' 18, getL l' 19, getL l' 20, getL l' 21, getL l' 22, getL l' 23, getL l' 24, getL l' 25, getL l' 26, getL l' 27, getL l' 28, getL l' 29, getL l' 30, getL l' 31, getL l' 32, getL l' 33, getL l' 34, getL l' 35, getL l' 36, getL l' 37, getL l' 38, getL l' 39, .bool x35, undef, undef, undef, undef, undef, undef, undef, undef] ∧ Hp sb s F0 s' [Ck.ov b2 [.int .i64 p0_0, .int .i64 p0_1, .slice A0_2p p0_2.length c0_2p, .int .i64 p0_3, .int .i64 p0_4] 27]) ?_ ?_
  · intro K26 hK26
    refine HT_region ?_
    refine HL_cons rfl ?_
    refine o_faddr' (ft := 3) (off := 0) rfl Try.underlying27 rfl tI3 (by decide) ?_
    try dsimp only [putL, setL, evL, getL]
    refine HL_cons rfl ?_
    refine o_load' rfl Try.underlying3 rfl (hH.hasv 0 rfl rfl) ?_
    try dsimp only [putL, setL, evL, getL]
    obtain ⟨u36, hu36, H⟩ := headE H
    refine HL_cons rfl ?_
    refine o_call (args := #[.int .i64 p0_0, .int .i64 1, .int .i64 20]) Try.func31 rfl rfl rfl (spec_l1In.ok sb s2 no p0_0 1 20 (Hp.own hH.bs) _ hu36) ?_
    rintro _ s36 ⟨rfl, hD⟩
    replace hH := hH.back0 hD (Up.refl _ _ _)
    clear hD
    dsimp only [addC, setC, rmC, selC, getC] at hH
    try dsimp only [putL, setL, evL, getL]
    refine HL_cons rfl ?_
    refine o_not rfl ?_
    try dsimp only [putL, setL, evL, getL]
    refine HL_cons rfl ?_
    refine o_move ?_
    try dsimp only [putL, setL, evL, getL]
    rcases Bool.eq_false_or_eq_true (!u36) with hb37 | hb37
    · replace H := iteT hb37 H
      refine HL_skip ?_ ?_
      · exact wantF (j := 4) (b := false) (t := 7) (c := !u36) rfl rfl rfl rfl hb37
      try dsimp only [putL, setL, evL, getL]
      refine HL_skip ?_ ?_
      · exact wantF (j := 4) (b := false) (t := 7) (c := !u36) rfl rfl rfl rfl hb37
      try dsimp only [putL, setL, evL, getL]
      refine HL_skip ?_ ?_
      · exact wantF (j := 4) (b := false) (t := 7) (c := !u36) rfl rfl rfl rfl hb37
      try dsimp only [putL, setL, evL, getL]
      refine HL_skip ?_ ?_
      · exact wantF (j := 4) (b := false) (t := 7) (c := !u36) rfl rfl rfl rfl hb37
      try dsimp only [putL, setL, evL, getL]
      refine HL_cons rfl ?_
      refine o_pickT rfl hb37 ?_
      try dsimp only [putL, setL, evL, getL]
      refine HL_cons rfl ?_
      refine o_move ?_
      try dsimp only [putL, setL, evL, getL]
      refine HL_skip ?_ ?_
      · exact wantF (j := 10) (b := false) (t := 13) (c := true) rfl rfl rfl rfl rfl
      try dsimp only [putL, setL, evL, getL]
      refine HL_skip ?_ ?_
      · exact wantF (j := 10) (b := false) (t := 13) (c := true) rfl rfl rfl rfl rfl
      try dsimp only [putL, setL, evL, getL]
      refine HL_skip ?_ ?_
      · exact wantF (j := 10) (b := false) (t := 13) (c := true) rfl rfl rfl rfl rfl
      try dsimp only [putL, setL, evL, getL]
      refine HL_skip ?_ ?_
      · exact wantF (j := 10) (b := false) (t := 13) (c := true) rfl rfl rfl rfl rfl
      try dsimp only [putL, setL, evL, getL]
      refine HL_skip ?_ ?_
      · exact wantF (j := 10) (b := false) (t := 13) (c := true) rfl rfl rfl rfl rfl
      try dsimp only [putL, setL, evL, getL]
      refine HL_skip ?_ ?_
      · exact wantF (j := 10) (b := false) (t := 13) (c := true) rfl rfl rfl rfl rfl
      try dsimp only [putL, setL, evL, getL]
      refine HL_cons rfl ?_
      refine o_pickT rfl rfl ?_
      try dsimp only [putL, setL, evL, getL]
      refine HL_cons rfl ?_
      refine o_move ?_
      try dsimp only [putL, setL, evL, getL]
      refine HL_skip ?_ ?_
      · exact wantF (j := 18) (b := false) (t := 21) (c := true) rfl rfl rfl rfl rfl
      try dsimp only [putL, setL, evL, getL]
      refine HL_skip ?_ ?_
      · exact wantF (j := 18) (b := false) (t := 21) (c := true) rfl rfl rfl rfl rfl
      try dsimp only [putL, setL, evL, getL]
      refine HL_skip ?_ ?_
      · exact wantF (j := 18) (b := false) (t := 21) (c := true) rfl rfl rfl rfl rfl
      try dsimp only [putL, setL, evL, getL]
      refine HL_skip ?_ ?_
      · exact wantF (j := 18) (b := false) (t := 21) (c := true) rfl rfl rfl rfl rfl
      try dsimp only [putL, setL, evL, getL]
      refine HL_skip ?_ ?_
      · exact wantF (j := 18) (b := false) (t := 21) (c := true) rfl rfl rfl rfl rfl
      try dsimp only [putL, setL, evL, getL]
      refine HL_skip ?_ ?_
      · exact wantF (j := 18) (b := false) (t := 21) (c := true) rfl rfl rfl rfl rfl
      try dsimp only [putL, setL, evL, getL]
      refine HL_skip ?_ ?_
      · exact wantF (j := 18) (b := false) (t := 21) (c := true) rfl rfl rfl rfl rfl
      try dsimp only [putL, setL, evL, getL]
      refine HL_cons rfl ?_
      refine o_pickT rfl rfl ?_
      try dsimp only [putL, setL, evL, getL]
      refine HL_cons rfl ?_
      refine o_move ?_
      try dsimp only [putL, setL, evL, getL]
      refine HL_skip ?_ ?_
      · exact wantF (j := 27) (b := false) (t := 30) (c := true) rfl rfl rfl rfl rfl
      try dsimp only [putL, setL, evL, getL]
      refine HL_skip ?_ ?_
      · exact wantF (j := 27) (b := false) (t := 30) (c := true) rfl rfl rfl rfl rfl
      try dsimp only [putL, setL, evL, getL]
      refine HL_skip ?_ ?_
      · exact wantF (j := 27) (b := false) (t := 30) (c := true) rfl rfl rfl rfl rfl
      try dsimp only [putL, setL, evL, getL]
      refine HL_skip ?_ ?_
      · exact wantF (j := 27) (b := false) (t := 30) (c := true) rfl rfl rfl rfl rfl
      try dsimp only [putL, setL, evL, getL]
      refine HL_skip ?_ ?_
      · exact wantF (j := 27) (b := false) (t := 30) (c := true) rfl rfl rfl rfl rfl
      try dsimp only [putL, setL, evL, getL]
      refine HL_skip ?_ ?_
      · exact wantF (j := 27) (b := false) (t := 30) (c := true) rfl rfl rfl rfl rfl
      try dsimp only [putL, setL, evL, getL]
      refine HL_skip ?_ ?_
      · exact wantF (j := 27) (b := false) (t := 30) (c := true) rfl rfl rfl rfl rfl
      try dsimp only [putL, setL, evL, getL]
      refine HL_skip ?_ ?_
      · exact wantF (j := 27) (b := false) (t := 30) (c := true) rfl rfl rfl rfl rfl
      try dsimp only [putL, setL, evL, getL]
      refine HL_skip ?_ ?_
      · exact wantF (j := 27) (b := false) (t := 30) (c := true) rfl rfl rfl rfl rfl
      try dsimp only [putL, setL, evL, getL]
      refine HL_cons rfl ?_
      refine o_pickT rfl rfl ?_
      try dsimp only [putL, setL, evL, getL]
      refine HL_nil ?_
      exact hK26 _ _ ⟨true, H, rfl, hH⟩
    · replace H := iteF hb37 H
      refine HL_want ?_ ?_
      · exact wantT (j := 4) (b := false) (t := 7) (c := !u36) rfl rfl rfl rfl hb37
      refine o_faddr' (ft := 3) (off := 1) rfl Try.underlying27 rfl tI3 (by decide) ?_
      try dsimp only [putL, setL, evL, getL]
      refine HL_want ?_ ?_
      · exact wantT (j := 4) (b := false) (t := 7) (c := !u36) rfl rfl rfl rfl hb37
      refine o_load' rfl Try.underlying3 rfl (hH.hasv 0 rfl rfl) ?_
      try dsimp only [putL, setL, evL, getL]
      obtain ⟨u38, hu38, H⟩ := headE H
      refine HL_want ?_ ?_
      · exact wantT (j := 4) (b := false) (t := 7) (c := !u36) rfl rfl rfl rfl hb37
      refine o_call (args := #[.int .i64 p0_1, .int .i64 1, .int .i64 8]) Try.func31 rfl rfl rfl (spec_l1In.ok sb s36 no p0_1 1 8 (Hp.own hH.bs) _ hu38) ?_
      rintro _ s38 ⟨rfl, hD⟩
      replace hH := hH.back0 hD (Up.refl _ _ _)
      clear hD
      dsimp only [addC, setC, rmC, selC, getC] at hH
      try dsimp only [putL, setL, evL, getL]
      refine HL_want ?_ ?_
      · exact wantT (j := 4) (b := false) (t := 7) (c := !u36) rfl rfl rfl rfl hb37
      refine o_not rfl ?_
      try dsimp only [putL, setL, evL, getL]
      refine HL_cons rfl ?_
      refine o_pickF rfl hb37 ?_
      try dsimp only [putL, setL, evL, getL]
      refine HL_cons rfl ?_
      refine o_move ?_
      try dsimp only [putL, setL, evL, getL]
      rcases Bool.eq_false_or_eq_true (!u38) with hb39 | hb39
      · replace H := iteT hb39 H
        refine HL_skip ?_ ?_
        · exact wantF (j := 10) (b := false) (t := 13) (c := !u38) rfl rfl rfl rfl hb39
        try dsimp only [putL, setL, evL, getL]
        refine HL_skip ?_ ?_
        · exact wantF (j := 10) (b := false) (t := 13) (c := !u38) rfl rfl rfl rfl hb39
        try dsimp only [putL, setL, evL, getL]
        refine HL_skip ?_ ?_
        · exact wantF (j := 10) (b := false) (t := 13) (c := !u38) rfl rfl rfl rfl hb39
        try dsimp only [putL, setL, evL, getL]
        refine HL_skip ?_ ?_
        · exact wantF (j := 10) (b := false) (t := 13) (c := !u38) rfl rfl rfl rfl hb39
        try dsimp only [putL, setL, evL, getL]
        refine HL_skip ?_ ?_
        · exact wantF (j := 10) (b := false) (t := 13) (c := !u38) rfl rfl rfl rfl hb39
        try dsimp only [putL, setL, evL, getL]
        refine HL_skip ?_ ?_
        · exact wantF (j := 10) (b := false) (t := 13) (c := !u38) rfl rfl rfl rfl hb39
        try dsimp only [putL, setL, evL, getL]
        refine HL_cons rfl ?_
        refine o_pickT rfl hb39 ?_
        try dsimp only [putL, setL, evL, getL]
        refine HL_cons rfl ?_
        refine o_move ?_
        try dsimp only [putL, setL, evL, getL]
        refine HL_skip ?_ ?_
        · exact wantF (j := 18) (b := false) (t := 21) (c := true) rfl rfl rfl rfl rfl
        try dsimp only [putL, setL, evL, getL]
        refine HL_skip ?_ ?_
        · exact wantF (j := 18) (b := false) (t := 21) (c := true) rfl rfl rfl rfl rfl
        try dsimp only [putL, setL, evL, getL]
        refine HL_skip ?_ ?_
        · exact wantF (j := 18) (b := false) (t := 21) (c := true) rfl rfl rfl rfl rfl
        try dsimp only [putL, setL, evL, getL]
        refine HL_skip ?_ ?_
        · exact wantF (j := 18) (b := false) (t := 21) (c := true) rfl rfl rfl rfl rfl
        try dsimp only [putL, setL, evL, getL]
        refine HL_skip ?_ ?_
        · exact wantF (j := 18) (b := false) (t := 21) (c := true) rfl rfl rfl rfl rfl
        try dsimp only [putL, setL, evL, getL]
        refine HL_skip ?_ ?_
        · exact wantF (j := 18) (b := false) (t := 21) (c := true) rfl rfl rfl rfl rfl
        try dsimp only [putL, setL, evL, getL]
        refine HL_skip ?_ ?_
        · exact wantF (j := 18) (b := false) (t := 21) (c := true) rfl rfl rfl rfl rfl
        try dsimp only [putL, setL, evL, getL]
        refine HL_cons rfl ?_
        refine o_pickT rfl rfl ?_
        try dsimp only [putL, setL, evL, getL]
        refine HL_cons rfl ?_
        refine o_move ?_
        try dsimp only [putL, setL, evL, getL]
        refine HL_skip ?_ ?_
        · exact wantF (j := 27) (b := false) (t := 30) (c := true) rfl rfl rfl rfl rfl
        try dsimp only [putL, setL, evL, getL]
        refine HL_skip ?_ ?_
        · exact wantF (j := 27) (b := false) (t := 30) (c := true) rfl rfl rfl rfl rfl
        try dsimp only [putL, setL, evL, getL]
        refine HL_skip ?_ ?_
        · exact wantF (j := 27) (b := false) (t := 30) (c := true) rfl rfl rfl rfl rfl
        try dsimp only [putL, setL, evL, getL]
        refine HL_skip ?_ ?_
        · exact wantF (j := 27) (b := false) (t := 30) (c := true) rfl rfl rfl rfl rfl
        try dsimp only [putL, setL, evL, getL]
        refine HL_skip ?_ ?_
        · exact wantF (j := 27) (b := false) (t := 30) (c := true) rfl rfl rfl rfl rfl
        try dsimp only [putL, setL, evL, getL]
        refine HL_skip ?_ ?_
        · exact wantF (j := 27) (b := false) (t := 30) (c := true) rfl rfl rfl rfl rfl
        try dsimp only [putL, setL, evL, getL]
        refine HL_skip ?_ ?_
        · exact wantF (j := 27) (b := false) (t := 30) (c := true) rfl rfl rfl rfl rfl
        try dsimp only [putL, setL, evL, getL]
        refine HL_skip ?_ ?_
        · exact wantF (j := 27) (b := false) (t := 30) (c := true) rfl rfl rfl rfl rfl
        try dsimp only [putL, setL, evL, getL]
        refine HL_skip ?_ ?_
        · exact wantF (j := 27) (b := false) (t := 30) (c := true) rfl rfl rfl rfl rfl
        try dsimp only [putL, setL, evL, getL]
        refine HL_cons rfl ?_
        refine o_pickT rfl rfl ?_
        try dsimp only [putL, setL, evL, getL]
        refine HL_nil ?_
        exact hK26 _ _ ⟨true, H, rfl, hH⟩
      · replace H := iteF hb39 H
        refine HL_want ?_ ?_
        · exact wantT (j := 10) (b := false) (t := 13) (c := !u38) rfl rfl rfl rfl hb39
        refine o_faddr' (ft := 3) (off := 3) rfl Try.underlying27 rfl tI3 (by decide) ?_
        try dsimp only [putL, setL, evL, getL]
        refine HL_want ?_ ?_
        · exact wantT (j := 10) (b := false) (t := 13) (c := !u38) rfl rfl rfl rfl hb39
        refine o_load' rfl Try.underlying3 rfl (hH.hasv 0 rfl rfl) ?_
        try dsimp only [putL, setL, evL, getL]
        refine HL_want ?_ ?_
        · exact wantT (j := 10) (b := false) (t := 13) (c := !u38) rfl rfl rfl rfl hb39
        refine o_faddr' (ft := 3) (off := 0) rfl Try.underlying27 rfl tI3 (by decide) ?_
        try dsimp only [putL, setL, evL, getL]
        refine HL_want ?_ ?_
        · exact wantT (j := 10) (b := false) (t := 13) (c := !u38) rfl rfl rfl rfl hb39
        refine o_load' rfl Try.underlying3 rfl (hH.hasv 0 rfl rfl) ?_
        try dsimp only [putL, setL, evL, getL]
        obtain ⟨u40, hu40, H⟩ := headE H
        refine HL_want ?_ ?_
        · exact wantT (j := 10) (b := false) (t := 13) (c := !u38) rfl rfl rfl rfl hb39
        refine o_call (args := #[.int .i64 p0_3, .int .i64 0, .int .i64 p0_0]) Try.func31 rfl rfl rfl (spec_l1In.ok sb s38 no p0_3 0 p0_0 (Hp.own hH.bs) _ hu40) ?_
        rintro _ s40 ⟨rfl, hD⟩
        replace hH := hH.back0 hD (Up.refl _ _ _)
        clear hD
        dsimp only [addC, setC, rmC, selC, getC] at hH
        try dsimp only [putL, setL, evL, getL]
        refine HL_want ?_ ?_
        · exact wantT (j := 10) (b := false) (t := 13) (c := !u38) rfl rfl rfl rfl hb39
        refine o_not rfl ?_
        try dsimp only [putL, setL, evL, getL]
        refine HL_cons rfl ?_
        refine o_pickF rfl hb39 ?_
        try dsimp only [putL, setL, evL, getL]
        refine HL_cons rfl ?_
        refine o_move ?_
        try dsimp only [putL, setL, evL, getL]
        rcases Bool.eq_false_or_eq_true (!u40) with hb41 | hb41
        · replace H := iteT hb41 H
          refine HL_skip ?_ ?_
          · exact wantF (j := 18) (b := false) (t := 21) (c := !u40) rfl rfl rfl rfl hb41
          try dsimp only [putL, setL, evL, getL]
          refine HL_skip ?_ ?_
          · exact wantF (j := 18) (b := false) (t := 21) (c := !u40) rfl rfl rfl rfl hb41
          try dsimp only [putL, setL, evL, getL]
          refine HL_skip ?_ ?_
          · exact wantF (j := 18) (b := false) (t := 21) (c := !u40) rfl rfl rfl rfl hb41
          try dsimp only [putL, setL, evL, getL]
          refine HL_skip ?_ ?_
          · exact wantF (j := 18) (b := false) (t := 21) (c := !u40) rfl rfl rfl rfl hb41
          try dsimp only [putL, setL, evL, getL]
          refine HL_skip ?_ ?_
          · exact wantF (j := 18) (b := false) (t := 21) (c := !u40) rfl rfl rfl rfl hb41
          try dsimp only [putL, setL, evL, getL]
          refine HL_skip ?_ ?_
          · exact wantF (j := 18) (b := false) (t := 21) (c := !u40) rfl rfl rfl rfl hb41
          try dsimp only [putL, setL, evL, getL]
          refine HL_skip ?_ ?_
          · exact wantF (j := 18) (b := false) (t := 21) (c := !u40) rfl rfl rfl rfl hb41
          try dsimp only [putL, setL, evL, getL]
          refine HL_cons rfl ?_
          refine o_pickT rfl hb41 ?_
          try dsimp only [putL, setL, evL, getL]
          refine HL_cons rfl ?_
          refine o_move ?_
          try dsimp only [putL, setL, evL, getL]
          refine HL_skip ?_ ?_
          · exact wantF (j := 27) (b := false) (t := 30) (c := true) rfl rfl rfl rfl rfl
          try dsimp only [putL, setL, evL, getL]
          refine HL_skip ?_ ?_
          · exact wantF (j := 27) (b := false) (t := 30) (c := true) rfl rfl rfl rfl rfl
          try dsimp only [putL, setL, evL, getL]
          refine HL_skip ?_ ?_
          · exact wantF (j := 27) (b := false) (t := 30) (c := true) rfl rfl rfl rfl rfl
          try dsimp only [putL, setL, evL, getL]
          refine HL_skip ?_ ?_
          · exact wantF (j := 27) (b := false) (t := 30) (c := true) rfl rfl rfl rfl rfl
          try dsimp only [putL, setL, evL, getL]
          refine HL_skip ?_ ?_
          · exact wantF (j := 27) (b := false) (t := 30) (c := true) rfl rfl rfl rfl rfl
          try dsimp only [putL, setL, evL, getL]
          refine HL_skip ?_ ?_
          · exact wantF (j := 27) (b := false) (t := 30) (c := true) rfl rfl rfl rfl rfl
          try dsimp only [putL, setL, evL, getL]
          refine HL_skip ?_ ?_
          · exact wantF (j := 27) (b := false) (t := 30) (c := true) rfl rfl rfl rfl rfl
          try dsimp only [putL, setL, evL, getL]
          refine HL_skip ?_ ?_
          · exact wantF (j := 27) (b := false) (t := 30) (c := true) rfl rfl rfl rfl rfl
          try dsimp only [putL, setL, evL, getL]
          refine HL_skip ?_ ?_
          · exact wantF (j := 27) (b := false) (t := 30) (c := true) rfl rfl rfl rfl rfl
          try dsimp only [putL, setL, evL, getL]
          refine HL_cons rfl ?_
          refine o_pickT rfl rfl ?_
          try dsimp only [putL, setL, evL, getL]
          refine HL_nil ?_
          exact hK26 _ _ ⟨true, H, rfl, hH⟩
        · replace H := iteF hb41 H
          refine HL_want ?_ ?_
          · exact wantT (j := 18) (b := false) (t := 21) (c := !u40) rfl rfl rfl rfl hb41
          refine o_faddr' (ft := 3) (off := 4) rfl Try.underlying27 rfl tI3 (by decide) ?_
          try dsimp only [putL, setL, evL, getL]
          refine HL_want ?_ ?_
          · exact wantT (j := 18) (b := false) (t := 21) (c := !u40) rfl rfl rfl rfl hb41
          refine o_load' rfl Try.underlying3 rfl (hH.hasv 0 rfl rfl) ?_
          try dsimp only [putL, setL, evL, getL]
          refine HL_want ?_ ?_
          · exact wantT (j := 18) (b := false) (t := 21) (c := !u40) rfl rfl rfl rfl hb41
          refine o_faddr' (ft := 3) (off := 1) rfl Try.underlying27 rfl tI3 (by decide) ?_
          try dsimp only [putL, setL, evL, getL]
          refine HL_want ?_ ?_
          · exact wantT (j := 18) (b := false) (t := 21) (c := !u40) rfl rfl rfl rfl hb41
          refine o_load' rfl Try.underlying3 rfl (hH.hasv 0 rfl rfl) ?_
          try dsimp only [putL, setL, evL, getL]
          refine HL_want ?_ ?_
          · exact wantT (j := 18) (b := false) (t := 21) (c := !u40) rfl rfl rfl rfl hb41
          refine o_bin rfl rfl rfl ?_
          try dsimp only [putL, setL, evL, getL]
          obtain ⟨u42, hu42, H⟩ := headE H
          refine HL_want ?_ ?_
          · exact wantT (j := 18) (b := false) (t := 21) (c := !u40) rfl rfl rfl rfl hb41
          refine o_call (args := #[.int .i64 p0_4, .int .i64 0, .int .i64 (IntKind.i64.wrap (p0_1 - 1))]) Try.func31 rfl rfl rfl (spec_l1In.ok sb s40 no p0_4 0 (IntKind.i64.wrap (p0_1 - 1)) (Hp.own hH.bs) _ hu42) ?_
          rintro _ s42 ⟨rfl, hD⟩
          replace hH := hH.back0 hD (Up.refl _ _ _)
          clear hD
          dsimp only [addC, setC, rmC, selC, getC] at hH
          try dsimp only [putL, setL, evL, getL]
          refine HL_want ?_ ?_
          · exact wantT (j := 18) (b := false) (t := 21) (c := !u40) rfl rfl rfl rfl hb41
          refine o_not rfl ?_
          try dsimp only [putL, setL, evL, getL]
          refine HL_cons rfl ?_
          refine o_pickF rfl hb41 ?_
          try dsimp only [putL, setL, evL, getL]
          refine HL_cons rfl ?_
          refine o_move ?_
          try dsimp only [putL, setL, evL, getL]
          rcases Bool.eq_false_or_eq_true (!u42) with hb43 | hb43
          · replace H := iteT hb43 H
            refine HL_skip ?_ ?_
            · exact wantF (j := 27) (b := false) (t := 30) (c := !u42) rfl rfl rfl rfl hb43
            try dsimp only [putL, setL, evL, getL]
            refine HL_skip ?_ ?_
            · exact wantF (j := 27) (b := false) (t := 30) (c := !u42) rfl rfl rfl rfl hb43
            try dsimp only [putL, setL, evL, getL]
            refine HL_skip ?_ ?_
            · exact wantF (j := 27) (b := false) (t := 30) (c := !u42) rfl rfl rfl rfl hb43
            try dsimp only [putL, setL, evL, getL]
            refine HL_skip ?_ ?_
            · exact wantF (j := 27) (b := false) (t := 30) (c := !u42) rfl rfl rfl rfl hb43
            try dsimp only [putL, setL, evL, getL]
            refine HL_skip ?_ ?_
            · exact wantF (j := 27) (b := false) (t := 30) (c := !u42) rfl rfl rfl rfl hb43
            try dsimp only [putL, setL, evL, getL]
            refine HL_skip ?_ ?_
            · exact wantF (j := 27) (b := false) (t := 30) (c := !u42) rfl rfl rfl rfl hb43
            try dsimp only [putL, setL, evL, getL]
            refine HL_skip ?_ ?_
            · exact wantF (j := 27) (b := false) (t := 30) (c := !u42) rfl rfl rfl rfl hb43
            try dsimp only [putL, setL, evL, getL]
            refine HL_skip ?_ ?_
            · exact wantF (j := 27) (b := false) (t := 30) (c := !u42) rfl rfl rfl rfl hb43
            try dsimp only [putL, setL, evL, getL]
            refine HL_skip ?_ ?_
            · exact wantF (j := 27) (b := false) (t := 30) (c := !u42) rfl rfl rfl rfl hb43
            try dsimp only [putL, setL, evL, getL]
            refine HL_cons rfl ?_
            refine o_pickT rfl hb43 ?_
            try dsimp only [putL, setL, evL, getL]
            refine HL_nil ?_
            exact hK26 _ _ ⟨true, H, rfl, hH⟩
          · replace H := iteF hb43 H
            refine HL_want ?_ ?_
            · exact wantT (j := 27) (b := false) (t := 30) (c := !u42) rfl rfl rfl rfl hb43
            refine o_faddr' (ft := 22) (off := 2) rfl Try.underlying27 rfl tI22 (by decide) ?_
            try dsimp only [putL, setL, evL, getL]
            refine HL_want ?_ ?_
            · exact wantT (j := 27) (b := false) (t := 30) (c := !u42) rfl rfl rfl rfl hb43
            refine o_load' rfl Try.underlying22 rfl (hH.hasv 0 rfl rfl) ?_
            try dsimp only [putL, setL, evL, getL]
            refine HL_want ?_ ?_
            · exact wantT (j := 27) (b := false) (t := 30) (c := !u42) rfl rfl rfl rfl hb43
            refine o_len rfl Try.underlying22 ?_
            try dsimp only [putL, setL, evL, getL]
            refine HL_want ?_ ?_
            · exact wantT (j := 27) (b := false) (t := 30) (c := !u42) rfl rfl rfl rfl hb43
            refine o_faddr' (ft := 3) (off := 0) rfl Try.underlying27 rfl tI3 (by decide) ?_
            try dsimp only [putL, setL, evL, getL]
            refine HL_want ?_ ?_
            · exact wantT (j := 27) (b := false) (t := 30) (c := !u42) rfl rfl rfl rfl hb43
            refine o_load' rfl Try.underlying3 rfl (hH.hasv 0 rfl rfl) ?_
            try dsimp only [putL, setL, evL, getL]
            refine HL_want ?_ ?_
            · exact wantT (j := 27) (b := false) (t := 30) (c := !u42) rfl rfl rfl rfl hb43
            refine o_faddr' (ft := 3) (off := 1) rfl Try.underlying27 rfl tI3 (by decide) ?_
            try dsimp only [putL, setL, evL, getL]
            refine HL_want ?_ ?_
            · exact wantT (j := 27) (b := false) (t := 30) (c := !u42) rfl rfl rfl rfl hb43
            refine o_load' rfl Try.underlying3 rfl (hH.hasv 0 rfl rfl) ?_
            try dsimp only [putL, setL, evL, getL]
            refine HL_want ?_ ?_
            · exact wantT (j := 27) (b := false) (t := 30) (c := !u42) rfl rfl rfl rfl hb43
            refine o_bin rfl rfl rfl ?_
            try dsimp only [putL, setL, evL, getL]
            refine HL_want ?_ ?_
            · exact wantT (j := 27) (b := false) (t := 30) (c := !u42) rfl rfl rfl rfl hb43
            refine o_bin rfl rfl rfl ?_
            try dsimp only [putL, setL, evL, getL]
            refine HL_cons rfl ?_
            refine o_pickF rfl hb43 ?_
            try dsimp only [putL, setL, evL, getL]
            refine HL_nil ?_
            exact hK26 _ _ ⟨(p0_2.length : Int) != (IntKind.i64.wrap (p0_0 * p0_1)), H, rfl, hH⟩
  · rintro l' s44 ⟨x35, H, hl, hH⟩
    generalize getL l' 3 = j3, getL l' 4 = j4, getL l' 5 = j5, getL l' 6 = j6, getL l' 7 = j7, getL l' 8 = j8, getL l' 9 = j9, getL l' 10 = j10, getL l' 11 = j11, getL l' 12 = j12, getL l' 13 = j13, getL l' 14 = j14, getL l' 15 = j15, getL l' 16 = j16, getL l' 17 = j17, getL l' 18 = j18, getL l' 19 = j19, getL l' 20 = j20, getL l' 21 = j21, getL l' 22 = j22, getL l' 23 = j23, getL l' 24 = j24, getL l' 25 = j25, getL l' 26 = j26, getL l' 27 = j27, getL l' 28 = j28, getL l' 29 = j29, getL l' 30 = j30, getL l' 31 = j31, getL l' 32 = j32, getL l' 33 = j33, getL l' 34 = j34, getL l' 35 = j35, getL l' 36 = j36, getL l' 37 = j37, getL l' 38 = j38, getL l' 39 = j39 at hl
    subst hl
    replace H := hG26 _ H
    try dsimp only at H
    rcases Bool.eq_false_or_eq_true x35 with hb45 | hb45
    · replace H := iteT hb45 H
      refine HT_true (congrArg Value.bool hb45) ?_
      refine HT_seq_k ?_
      intro K46 hK46
      refine HT_region ?_
      refine HL_cons rfl ?_
      refine o_assign ?_
      try dsimp only [putL, setL, evL, getL]
      refine HL_nil ?_
      refine hK46 _ _ ?_
      refine HT_ret ?_
      obtain rfl := Option.some.inj (show some _ = some r from H)
      exact hQr _ _ [.bool false] ⟨rfl, trivial⟩ ⟨rfl, hH.sel [] (by decide)⟩
    · replace H := iteF hb45 H
      refine HT_false (congrArg Value.bool hb45) ?_
      refine HT_skip ?_
      refine hK25 _ _ ?_
      refine HT_seq_k ?_
      intro K47 hK47
      refine HT_region ?_
      refine HL_cons rfl ?_
      refine o_faddr' (ft := 22) (off := 2) rfl Try.underlying27 rfl tI22 (by decide) ?_
      try dsimp only [putL, setL, evL, getL]
      refine HL_cons rfl ?_
      refine o_load' rfl Try.underlying22 rfl (hH.hasv 0 rfl rfl) ?_
      try dsimp only [putL, setL, evL, getL]
      obtain ⟨u48, hu48, H⟩ := headE H
      refine HL_cons rfl ?_
      refine o_call (args := #[.slice A0_2p p0_2.length c0_2p]) Try.func32 rfl rfl rfl (spec_l1AllRunes.ok sb s44 no A0_2p c0_2p p0_2 HRp0_2 (Hp.own hH.bs) _ hu48) ?_
      rintro _ s48 ⟨rfl, hD⟩
      replace hH := hH.back0 hD (Up.refl _ _ _)
      clear hD
      dsimp only [addC, setC, rmC, selC, getC] at hH
      try dsimp only [putL, setL, evL, getL]
      refine HL_cons rfl ?_
      refine o_move ?_
      try dsimp only [putL, setL, evL, getL]
      rcases Bool.eq_false_or_eq_true u48 with hb49 | hb49
      · replace H := iteT hb49 H
        refine HL_want ?_ ?_
        · exact wantT (j := 3) (b := true) (t := 44) (c := u48) rfl rfl rfl rfl hb49
        refine o_faddr' (ft := 22) (off := 2) rfl Try.underlying27 rfl tI22 (by decide) ?_
        try dsimp only [putL, setL, evL, getL]
        refine HL_want ?_ ?_
        · exact wantT (j := 3) (b := true) (t := 44) (c := u48) rfl rfl rfl rfl hb49
        refine o_load' rfl Try.underlying22 rfl (hH.hasv 0 rfl rfl) ?_
        try dsimp only [putL, setL, evL, getL]
        obtain ⟨u50, hu50, H⟩ := headE H
        refine HL_want ?_ ?_
        · exact wantT (j := 3) (b := true) (t := 44) (c := u48) rfl rfl rfl rfl hb49
        refine o_call (args := #[.slice A0_2p p0_2.length c0_2p, .int .i64 32, .int .i64 1114111]) Try.func33 rfl rfl rfl (spec_l1All.ok sb s48 no A0_2p c0_2p p0_2 32 1114111 HRp0_2 (Hp.own hH.bs) _ hu50) ?_
        rintro _ s50 ⟨rfl, hD⟩
        replace hH := hH.back0 hD (Up.refl _ _ _)
        clear hD
        dsimp only [addC, setC, rmC, selC, getC] at hH
        try dsimp only [putL, setL, evL, getL]
        refine HL_cons rfl ?_
        refine o_pickT rfl hb49 ?_
        try dsimp only [putL, setL, evL, getL]
        refine HL_cons rfl ?_
        refine o_assign ?_
        try dsimp only [putL, setL, evL, getL]
        refine HL_nil ?_
        refine hK47 _ _ ?_
        refine HT_ret ?_
        obtain rfl := Option.some.inj (show some _ = some r from H)
        exact hQr _ _ [.bool u50] ⟨rfl, trivial⟩ ⟨rfl, hH.sel [] (by decide)⟩
      · replace H := iteF hb49 H
        refine HL_skip ?_ ?_
        · exact wantF (j := 3) (b := true) (t := 44) (c := u48) rfl rfl rfl rfl hb49
        try dsimp only [putL, setL, evL, getL]
        refine HL_skip ?_ ?_
        · exact wantF (j := 3) (b := true) (t := 44) (c := u48) rfl rfl rfl rfl hb49
        try dsimp only [putL, setL, evL, getL]
        refine HL_skip ?_ ?_
        · exact wantF (j := 3) (b := true) (t := 44) (c := u48) rfl rfl rfl rfl hb49
        try dsimp only [putL, setL, evL, getL]
        refine HL_cons rfl ?_
        refine o_pickF rfl hb49 ?_
        try dsimp only [putL, setL, evL, getL]
        refine HL_cons rfl ?_
        refine o_assign ?_
        try dsimp only [putL, setL, evL, getL]
        refine HL_nil ?_
        refine hK47 _ _ ?_
        refine HT_ret ?_
        obtain rfl := Option.some.inj (show some _ = some r from H)
        exact hQr _ _ [.bool false] ⟨rfl, trivial⟩ ⟨rfl, hH.sel [] (by decide)⟩
def spec_l1Own.f (p0 : List (Int)) : Option (List (Int)) := (app? 17592186044416 ([] : List (Int)) p0).bind fun x4 => some x4
def spec_l1Own.post (sb s : St) (F0 : Fp) (r : (List (Int))) : Value → St → Prop := fun v s' => ∃ (A0 : Option Addr) (c0 : Nat), v = .slice A0 r.length c0 ∧ Hp sb s F0 s' [Ck.ol OI 3 A0 c0 r]
set_option maxRecDepth 100000 in
set_option maxHeartbeats 4000000 in
theorem spec_l1Own.ok (sb s : St) (F0 : Fp) (A0p : Option Addr) (c0p : Nat) (p0 : List (Int)) (HRp0 : Rd KI sb A0p c0p p0) (hH : Hp sb s F0 s []) (r : (List (Int))) (H : spec_l1Own.f p0 = some r) : GCall Try.prog 62 #[.slice A0p p0.length c0p] s (spec_l1Own.post sb s F0 r) := by
  refine GCall_ofk [.tmp 2] [.slice A0p p0.length c0p, undef, undef, undef, undef, undef] Try.func62 rfl rfl rfl ?_
  intro w Q hQr hQn hQp
  replace H := topE H
  unfold spec_l1Own.f at H
  refine HT_seq_k ?_
  intro K1 hK1
  refine HT_region ?_
  refine HL_cons rfl ?_
  refine o_assign ?_
  try dsimp only [putL, setL, evL, getL]
  refine HL_nil ?_
  refine hK1 _ _ ?_
  refine HT_seq_k ?_
  intro K2 hK2
  refine HT_region ?_
  refine HL_cons rfl ?_
  refine o_lit0H (α := Int) (K := KI) (O := OI) hH Try.underlying22 tI3 ?_
  intro A3 s3 hH' hG
  replace hH : Hp sb s F0 s3 [Ck.ol OI 3 A3 0 ([] : List (Int))] := hH'
  clear hH' hG
  try dsimp only [putL, setL, evL, getL]
  refine HL_cons rfl ?_
  refine o_move ?_
  try dsimp only [putL, setL, evL, getL]
  obtain ⟨x4, hx4, H⟩ := headE H
  refine HL_cons rfl ?_
  refine o_appF (K := KI) (n := 17592186044416) (A := A3) (c := 0) (xs := ([] : List (Int))) (ys := p0) (B := A0p) (c2 := c0p) hH 0 rfl rfl rfl rfl Try.underlying22 tI3 rfl (by decide) (by decide) (by decide) (Src.flat (HRp0.mono hH.bs.mono)) hx4 ?_
  intro A4 c4 s4 hH'
  replace hH : Hp sb s F0 s4 [Ck.ol OI 3 A4 c4 x4] := hH'
  clear hH'
  try dsimp only [putL, setL, evL, getL]
  refine HL_cons rfl ?_
  refine o_assign ?_
  try dsimp only [putL, setL, evL, getL]
  refine HL_nil ?_
  refine hK2 _ _ ?_
  refine HT_ret ?_
  obtain rfl := Option.some.inj (show some _ = some r from H)
  exact hQr _ _ [.slice A4 x4.length c4] ⟨rfl, trivial⟩ ⟨A4, c4, rfl, hH⟩
def spec_l16Row.l1 : Nat → (List (Int)) → Option (List (Int))
  | 0, _ => none
  | kf + 1, x86 => (if (decide ((x86.length : Int) > 0)) = true then ((rd? x86 (IntKind.i64.wrap ((x86.length : Int) - 1))).bind fun u123 => some (u123 == 32)) else (some false)).bind fun (o : Bool) => match o with | x121 => (if x121 = true then ((cut? x86 0 (IntKind.i64.wrap ((x86.length : Int) - 1))).bind fun x126 => spec_l16Row.l1 kf x126) else (some x86))
def spec_l16Row.f (p0_0 : Int) (p0_1 : Int) (p0_2 : List (Int)) (p0_3 : Int) (p0_4 : Int) (p1 : Int) : Option (List (Int)) := (cut? p0_2 (IntKind.i64.wrap (p1 * p0_0)) (IntKind.i64.wrap ((IntKind.i64.wrap (p1 + 1)) * p0_0))).bind fun x4 => (spec_l16Row.l1 ((((x4.length : Int)) - (0)).toNat + 2) x4).bind fun (o : (List (Int))) => match o with | x66 => ((spec_l1Own.f x66).bind fun u129 => some u129)
def spec_l16Row.post (sb s : St) (F0 : Fp) (r : (List (Int))) : Value → St → Prop := fun v s' => ∃ (A0 : Option Addr) (c0 : Nat), v = .slice A0 r.length c0 ∧ Hp sb s F0 s' [Ck.ol OI 3 A0 c0 r]
set_option maxRecDepth 100000 in
set_option maxHeartbeats 4000000 in
theorem spec_l16Row.ok (sb s : St) (F0 : Fp) (p0_0 : Int) (p0_1 : Int) (A0_2p : Option Addr) (c0_2p : Nat) (p0_2 : List (Int)) (p0_3 : Int) (p0_4 : Int) (p1 : Int) (HRp0_2 : Rd KI sb A0_2p c0_2p p0_2) (hH : Hp sb s F0 s []) (r : (List (Int))) (H : spec_l16Row.f p0_0 p0_1 p0_2 p0_3 p0_4 p1 = some r) : GCall Try.prog 53 #[.agg #[.int .i64 p0_0, .int .i64 p0_1, .slice A0_2p p0_2.length c0_2p, .int .i64 p0_3, .int .i64 p0_4], .int .i64 p1] s (spec_l16Row.post sb s F0 r) := by
  refine GCall_ofk [.tmp 4] [.agg #[.int .i64 p0_0, .int .i64 p0_1, .slice A0_2p p0_2.length c0_2p, .int .i64 p0_3, .int .i64 p0_4], .int .i64 p1, undef, undef, undef, undef, undef, undef, undef, undef, undef, undef, undef, undef, undef, undef, undef, undef, undef, undef, undef, undef, undef, undef, undef, undef, undef, undef, undef, undef, undef, undef, undef, undef, undef, undef, undef] Try.func53 rfl rfl rfl ?_
  intro w Q hQr hQn hQp
  replace H := topE H
  unfold spec_l16Row.f at H
  refine HT_seq_k ?_
  intro K1 hK1
  refine HT_region ?_
  refine HL_cons rfl ?_
  refine o_boxH hH rfl ?_
  intro b2 s2 hH' hG
  replace hH : Hp sb s F0 s2 [Ck.ov b2 [.int .i64 p0_0, .int .i64 p0_1, .slice A0_2p p0_2.length c0_2p, .int .i64 p0_3, .int .i64 p0_4] 27] := hH'
  clear hH' hG
  try dsimp only [putL, setL, evL, getL]
  refine HL_cons rfl ?_
  refine o_assign ?_
  try dsimp only [putL, setL, evL, getL]
  refine HL_nil ?_
  refine hK1 _ _ ?_
  refine HT_seq_k ?_
  intro K3 hK3
  refine HT_region ?_
  refine HL_cons rfl ?_
  refine o_faddr' (ft := 22) (off := 2) rfl Try.underlying27 rfl tI22 (by decide) ?_
  try dsimp only [putL, setL, evL, getL]
  refine HL_cons rfl ?_
  refine o_load' rfl Try.underlying22 rfl (hH.hasv 0 rfl rfl) ?_
  try dsimp only [putL, setL, evL, getL]
  refine HL_cons rfl ?_
  refine o_move ?_
  try dsimp only [putL, setL, evL, getL]
  refine HL_cons rfl ?_
  refine o_faddr' (ft := 3) (off := 0) rfl Try.underlying27 rfl tI3 (by decide) ?_
  try dsimp only [putL, setL, evL, getL]
  refine HL_cons rfl ?_
  refine o_load' rfl Try.underlying3 rfl (hH.hasv 0 rfl rfl) ?_
  try dsimp only [putL, setL, evL, getL]
  refine HL_cons rfl ?_
  refine o_bin rfl rfl rfl ?_
  try dsimp only [putL, setL, evL, getL]
  refine HL_cons rfl ?_
  refine o_move ?_
  try dsimp only [putL, setL, evL, getL]
  refine HL_cons rfl ?_
  refine o_bin rfl rfl rfl ?_
  try dsimp only [putL, setL, evL, getL]
  refine HL_cons rfl ?_
  refine o_faddr' (ft := 3) (off := 0) rfl Try.underlying27 rfl tI3 (by decide) ?_
  try dsimp only [putL, setL, evL, getL]
  refine HL_cons rfl ?_
  refine o_load' rfl Try.underlying3 rfl (hH.hasv 0 rfl rfl) ?_
  try dsimp only [putL, setL, evL, getL]
  refine HL_cons rfl ?_
  refine o_bin rfl rfl rfl ?_
  try dsimp only [putL, setL, evL, getL]
  obtain ⟨x4, hx4, H⟩ := headE H
  refine HL_cons rfl ?_
  refine o_cutA (xs := p0_2) (kl := .i64) (kh := .i64) (L := IntKind.i64.wrap (p1 * p0_0)) (H := IntKind.i64.wrap ((IntKind.i64.wrap (p1 + 1)) * p0_0)) rfl rfl rfl Try.underlying22 tI3 HRp0_2.1 hx4 ?_
  have D4 := HRp0_2.cut hx4
  try dsimp only [putL, setL, evL, getL]
  refine HL_cons rfl ?_
  refine o_assign ?_
  try dsimp only [putL, setL, evL, getL]
  refine HL_nil ?_
  refine hK3 _ _ ?_
  refine joinH H fun G5 hG5 H => ?_
  refine HT_joinK (fun l' s' => ∃ (x66 : List (Int)) (A66 : Option Addr) (c66 : Nat), G5 x66 = some r ∧ l' = [.agg #[.int .i64 p0_0, .int .i64 p0_1, .slice A0_2p p0_2.length c0_2p, .int .i64 p0_3, .int .i64 p0_4], .int .i64 p1, .pointer (some ⟨b2, 0, none⟩), undef, .slice none 0 0, .slice A66 x66.length c66, .pointer (some ⟨b2, 0 + 2, none⟩), .slice A0_2p p0_2.length c0_2p, .int .i64 p1, .pointer (some ⟨b2, 0 + 0, none⟩), .int .i64 p0_0, .int .i64 (IntKind.i64.wrap (p1 * p0_0)), .int .i64 p1, .int .i64 (IntKind.i64.wrap (p1 + 1)), .pointer (some ⟨b2, 0 + 0, none⟩), .int .i64 p0_0, .int .i64 (IntKind.i64.wrap ((IntKind.i64.wrap (p1 + 1)) * p0_0)), .slice (cutA A0_2p c0_2p (Int.toNat (IntKind.i64.wrap (p1 * p0_0))) (Kd.sz KI)) x4.length (c0_2p - Int.toNat (IntKind.i64.wrap (p1 * p0_0))), getL l' 18, getL l' 19, getL l' 20, getL l' 21, getL l' 22, getL l' 23, getL l' 24, getL l' 25, getL l' 26, getL l' 27, getL l' 28, getL l' 29, getL l' 30, getL l' 31, getL l' 32, getL l' 33, getL l' 34, undef, undef] ∧ Hp sb s F0 s' [] ∧ Rd KI sb A66 c66 x66) ?_ ?_
  · intro K5 hK5
    refine HT_block ?_
    refine HT_loopK (fun kf l' s' => ∃ (x86 : List (Int)) (A86 : Option Addr) (c86 : Nat), (spec_l16Row.l1 kf x86).bind G5 = some r ∧ l' = [.agg #[.int .i64 p0_0, .int .i64 p0_1, .slice A0_2p p0_2.length c0_2p, .int .i64 p0_3, .int .i64 p0_4], .int .i64 p1, .pointer (some ⟨b2, 0, none⟩), undef, .slice none 0 0, .slice A86 x86.length c86, .pointer (some ⟨b2, 0 + 2, none⟩), .slice A0_2p p0_2.length c0_2p, .int .i64 p1, .pointer (some ⟨b2, 0 + 0, none⟩), .int .i64 p0_0, .int .i64 (IntKind.i64.wrap (p1 * p0_0)), .int .i64 p1, .int .i64 (IntKind.i64.wrap (p1 + 1)), .pointer (some ⟨b2, 0 + 0, none⟩), .int .i64 p0_0, .int .i64 (IntKind.i64.wrap ((IntKind.i64.wrap (p1 + 1)) * p0_0)), .slice (cutA A0_2p c0_2p (Int.toNat (IntKind.i64.wrap (p1 * p0_0))) (Kd.sz KI)) x4.length (c0_2p - Int.toNat (IntKind.i64.wrap (p1 * p0_0))), getL l' 18, getL l' 19, getL l' 20, getL l' 21, getL l' 22, getL l' 23, getL l' 24, getL l' 25, getL l' 26, getL l' 27, getL l' 28, getL l' 29, getL l' 30, getL l' 31, getL l' 32, getL l' 33, getL l' 34, undef, undef] ∧ Hp sb s F0 s' [] ∧ Rd KI sb A86 c86 x86) ((((x4.length : Int)) - (0)).toNat + 2) ⟨x4, (cutA A0_2p c0_2p (Int.toNat (IntKind.i64.wrap (p1 * p0_0))) (Kd.sz KI)), c0_2p - Int.toNat (IntKind.i64.wrap (p1 * p0_0)), H, rfl, hH.sel [] (by decide), D4⟩ ?_
    rintro kf l' s107 ⟨x86, A86, c86, H, hl, hH, D86⟩ K107 hK107
    generalize getL l' 18 = j18, getL l' 19 = j19, getL l' 20 = j20, getL l' 21 = j21, getL l' 22 = j22, getL l' 23 = j23, getL l' 24 = j24, getL l' 25 = j25, getL l' 26 = j26, getL l' 27 = j27, getL l' 28 = j28, getL l' 29 = j29, getL l' 30 = j30, getL l' 31 = j31, getL l' 32 = j32, getL l' 33 = j33, getL l' 34 = j34 at hl
    subst hl
    cases kf with
    | zero => simp [spec_l16Row.l1] at H
    | succ kf =>
      rw [spec_l16Row.l1] at H
      refine HT_seq_k ?_
      intro K117 hK117
      refine joinH H fun G118 hG118 H => ?_
      refine HT_joinK (fun l' s' => ∃ (x121 : Bool), G118 x121 = some r ∧ l' = [.agg #[.int .i64 p0_0, .int .i64 p0_1, .slice A0_2p p0_2.length c0_2p, .int .i64 p0_3, .int .i64 p0_4], .int .i64 p1, .pointer (some ⟨b2, 0, none⟩), undef, .slice none 0 0, .slice A86 x86.length c86, .pointer (some ⟨b2, 0 + 2, none⟩), .slice A0_2p p0_2.length c0_2p, .int .i64 p1, .pointer (some ⟨b2, 0 + 0, none⟩), .int .i64 p0_0, .int .i64 (IntKind.i64.wrap (p1 * p0_0)), .int .i64 p1, .int .i64 (IntKind.i64.wrap (p1 + 1)), .pointer (some ⟨b2, 0 + 0, none⟩), .int .i64 p0_0, .int .i64 (IntKind.i64.wrap ((IntKind.i64.wrap (p1 + 1)) * p0_0)), .slice (cutA A0_2p c0_2p (Int.toNat (IntKind.i64.wrap (p1 * p0_0))) (Kd.sz KI)) x4.length (c0_2p - Int.toNat (IntKind.i64.wrap (p1 * p0_0))), getL l' 18, getL l' 19, getL l' 20, getL l' 21, getL l' 22, getL l' 23, getL l' 24, getL l' 25, getL l' 26, getL l' 27, getL l' 28, .bool x121, j30, j31, j32, j33, j34, undef, undef] ∧ Hp sb s F0 s' []) ?_ ?_
      · intro K118 hK118
        refine HT_region ?_
        refine HL_cons rfl ?_
        refine o_move ?_
        try dsimp only [putL, setL, evL, getL]
        refine HL_cons rfl ?_
        refine o_len rfl Try.underlying22 ?_
        try dsimp only [putL, setL, evL, getL]
        refine HL_cons rfl ?_
        refine o_bin rfl rfl rfl ?_
        try dsimp only [putL, setL, evL, getL]
        refine HL_cons rfl ?_
        refine o_move ?_
        try dsimp only [putL, setL, evL, getL]
        rcases Bool.eq_false_or_eq_true (decide ((x86.length : Int) > 0)) with hb122 | hb122
        · replace H := iteT hb122 H
          refine HL_want ?_ ?_
          · exact wantT (j := 3) (b := true) (t := 21) (c := decide ((x86.length : Int) > 0)) rfl rfl rfl rfl hb122
          refine o_move ?_
          try dsimp only [putL, setL, evL, getL]
          refine HL_want ?_ ?_
          · exact wantT (j := 3) (b := true) (t := 21) (c := decide ((x86.length : Int) > 0)) rfl rfl rfl rfl hb122
          refine o_move ?_
          try dsimp only [putL, setL, evL, getL]
          refine HL_want ?_ ?_
          · exact wantT (j := 3) (b := true) (t := 21) (c := decide ((x86.length : Int) > 0)) rfl rfl rfl rfl hb122
          refine o_len rfl Try.underlying22 ?_
          try dsimp only [putL, setL, evL, getL]
          refine HL_want ?_ ?_
          · exact wantT (j := 3) (b := true) (t := 21) (c := decide ((x86.length : Int) > 0)) rfl rfl rfl rfl hb122
          refine o_bin rfl rfl rfl ?_
          try dsimp only [putL, setL, evL, getL]
          obtain ⟨u123, hu123, H⟩ := headE H
          obtain ⟨b123, o123, cs123, hr123, hh123, hel123⟩ := Rd.elb D86 hu123
          obtain rfl := hr123
          refine HL_want ?_ ?_
          · exact wantT (j := 3) (b := true) (t := 21) (c := decide ((x86.length : Int) > 0)) rfl rfl rfl rfl hb122
          refine hel123 s107 rfl rfl Try.underlying22 tI3 ?_
          try dsimp only [putL, setL, evL, getL]
          refine HL_want ?_ ?_
          · exact wantT (j := 3) (b := true) (t := 21) (c := decide ((x86.length : Int) > 0)) rfl rfl rfl rfl hb122
          refine o_load' rfl Try.underlying3 rfl ((hh123 hH.bs.mono) 0 _ rfl) ?_
          try dsimp only [putL, setL, evL, getL]
          refine HL_want ?_ ?_
          · exact wantT (j := 3) (b := true) (t := 21) (c := decide ((x86.length : Int) > 0)) rfl rfl rfl rfl hb122
          refine o_bin rfl rfl rfl ?_
          try dsimp only [putL, setL, evL, getL]
          refine HL_cons rfl ?_
          refine o_pickT rfl hb122 ?_
          try dsimp only [putL, setL, evL, getL]
          refine HL_nil ?_
          exact hK118 _ _ ⟨u123 == 32, H, rfl, hH⟩
        · replace H := iteF hb122 H
          refine HL_skip ?_ ?_
          · exact wantF (j := 3) (b := true) (t := 21) (c := decide ((x86.length : Int) > 0)) rfl rfl rfl rfl hb122
          try dsimp only [putL, setL, evL, getL]
          refine HL_skip ?_ ?_
          · exact wantF (j := 3) (b := true) (t := 21) (c := decide ((x86.length : Int) > 0)) rfl rfl rfl rfl hb122
          try dsimp only [putL, setL, evL, getL]
          refine HL_skip ?_ ?_
          · exact wantF (j := 3) (b := true) (t := 21) (c := decide ((x86.length : Int) > 0)) rfl rfl rfl rfl hb122
          try dsimp only [putL, setL, evL, getL]
          refine HL_skip ?_ ?_
          · exact wantF (j := 3) (b := true) (t := 21) (c := decide ((x86.length : Int) > 0)) rfl rfl rfl rfl hb122
          try dsimp only [putL, setL, evL, getL]
          refine HL_skip ?_ ?_
          · exact wantF (j := 3) (b := true) (t := 21) (c := decide ((x86.length : Int) > 0)) rfl rfl rfl rfl hb122
          try dsimp only [putL, setL, evL, getL]
          refine HL_skip ?_ ?_
          · exact wantF (j := 3) (b := true) (t := 21) (c := decide ((x86.length : Int) > 0)) rfl rfl rfl rfl hb122
          try dsimp only [putL, setL, evL, getL]
          refine HL_skip ?_ ?_
          · exact wantF (j := 3) (b := true) (t := 21) (c := decide ((x86.length : Int) > 0)) rfl rfl rfl rfl hb122
          try dsimp only [putL, setL, evL, getL]
          refine HL_cons rfl ?_
          refine o_pickF rfl hb122 ?_
          try dsimp only [putL, setL, evL, getL]
          refine HL_nil ?_
          exact hK118 _ _ ⟨false, H, rfl, hH⟩
      · rintro l' s124 ⟨x121, H, hl, hH⟩
        generalize getL l' 18 = j18, getL l' 19 = j19, getL l' 20 = j20, getL l' 21 = j21, getL l' 22 = j22, getL l' 23 = j23, getL l' 24 = j24, getL l' 25 = j25, getL l' 26 = j26, getL l' 27 = j27, getL l' 28 = j28 at hl
        subst hl
        replace H := hG118 _ H
        try dsimp only at H
        rcases Bool.eq_false_or_eq_true x121 with hb125 | hb125
        · replace H := iteT hb125 H
          refine HT_true (congrArg Value.bool hb125) ?_
          refine HT_skip ?_
          refine hK117 _ _ ?_
          refine HT_block ?_
          refine HT_region ?_
          refine HL_cons rfl ?_
          refine o_move ?_
          try dsimp only [putL, setL, evL, getL]
          refine HL_cons rfl ?_
          refine o_move ?_
          try dsimp only [putL, setL, evL, getL]
          refine HL_cons rfl ?_
          refine o_len rfl Try.underlying22 ?_
          try dsimp only [putL, setL, evL, getL]
          refine HL_cons rfl ?_
          refine o_bin rfl rfl rfl ?_
          try dsimp only [putL, setL, evL, getL]
          obtain ⟨x126, hx126, H⟩ := headE H
          refine HL_cons rfl ?_
          refine o_cutA (xs := x86) (kl := .i64) (kh := .i64) (L := 0) (H := IntKind.i64.wrap ((x86.length : Int) - 1)) rfl rfl rfl Try.underlying22 tI3 D86.1 hx126 ?_
          have D126 := D86.cut hx126
          try dsimp only [putL, setL, evL, getL]
          refine HL_cons rfl ?_
          refine o_assign ?_
          try dsimp only [putL, setL, evL, getL]
          refine HL_nil ?_
          exact hK107 _ _ ⟨kf, Nat.lt_succ_self kf, x126, (cutA A86 c86 (Int.toNat 0) (Kd.sz KI)), c86 - Int.toNat 0, H, rfl, hH, D126⟩
        · replace H := iteF hb125 H
          refine HT_false (congrArg Value.bool hb125) ?_
          refine HT_exit ?_
          exact hK5 _ _ ⟨x86, A86, c86, H, rfl, hH, D86⟩
  · rintro l' s127 ⟨x66, A66, c66, H, hl, hH, D66⟩
    generalize getL l' 18 = j18, getL l' 19 = j19, getL l' 20 = j20, getL l' 21 = j21, getL l' 22 = j22, getL l' 23 = j23, getL l' 24 = j24, getL l' 25 = j25, getL l' 26 = j26, getL l' 27 = j27, getL l' 28 = j28, getL l' 29 = j29, getL l' 30 = j30, getL l' 31 = j31, getL l' 32 = j32, getL l' 33 = j33, getL l' 34 = j34 at hl
    subst hl
    replace H := hG5 _ H
    try dsimp only at H
    refine HT_seq_k ?_
    intro K128 hK128
    refine HT_region ?_
    refine HL_cons rfl ?_
    refine o_move ?_
    try dsimp only [putL, setL, evL, getL]
    obtain ⟨u129, hu129, H⟩ := headE H
    refine HL_cons rfl ?_
    refine o_call (args := #[.slice A66 x66.length c66]) Try.func62 rfl rfl rfl (spec_l1Own.ok sb s127 no A66 c66 x66 D66 (Hp.own hH.bs) _ hu129) ?_
    rintro _ s129 ⟨A130, c130, rfl, hD⟩
    replace hH := hH.back0 hD (Up.refl _ _ _)
    clear hD
    dsimp only [addC, setC, rmC, selC, getC] at hH
    try dsimp only [putL, setL, evL, getL]
    refine HL_cons rfl ?_
    refine o_assign ?_
    try dsimp only [putL, setL, evL, getL]
    refine HL_nil ?_
    refine hK128 _ _ ?_
    refine HT_ret ?_
    obtain rfl := Option.some.inj (show some _ = some r from H)
    exact hQr _ _ [.slice A130 u129.length c130] ⟨rfl, trivial⟩ ⟨A130, c130, rfl, hH⟩
def spec_RowOf.f (p0_0 : Int) (p0_1 : Int) (p0_2 : List (Int)) (p0_3 : Int) (p0_4 : Int) (p1 : Int) : Option ((List (Int)) × Bool) := ((spec_GoodScreen.f p0_0 p0_1 p0_2 p0_3 p0_4).bind fun u21 => if (!u21) = true then (some true) else ((spec_l1In.f p1 0 (IntKind.i64.wrap (p0_1 - 1))).bind fun u23 => some (!u23))).bind fun (o : Bool) => match o with | x20 => (if x20 = true then (some ([], false)) else ((spec_l16Row.f p0_0 p0_1 p0_2 p0_3 p0_4 p1).bind fun u28 => some (u28, true)))
def spec_RowOf.post (sb s : St) (F0 : Fp) (r : (List (Int)) × Bool) : Value → St → Prop := fun v s' => ∃ (A0 : Option Addr) (c0 : Nat), v = .tuple #[.slice A0 r.1.length c0, .bool r.2] ∧ Hp sb s F0 s' [Ck.ol OI 3 A0 c0 r.1]
set_option maxRecDepth 100000 in
set_option maxHeartbeats 4000000 in
theorem spec_RowOf.ok (sb s : St) (F0 : Fp) (p0_0 : Int) (p0_1 : Int) (A0_2p : Option Addr) (c0_2p : Nat) (p0_2 : List (Int)) (p0_3 : Int) (p0_4 : Int) (p1 : Int) (HRp0_2 : Rd KI sb A0_2p c0_2p p0_2) (hH : Hp sb s F0 s []) (r : (List (Int)) × Bool) (H : spec_RowOf.f p0_0 p0_1 p0_2 p0_3 p0_4 p1 = some r) : GCall Try.prog 28 #[.agg #[.int .i64 p0_0, .int .i64 p0_1, .slice A0_2p p0_2.length c0_2p, .int .i64 p0_3, .int .i64 p0_4], .int .i64 p1] s (spec_RowOf.post sb s F0 r) := by
  refine GCall_ofk [.tmp 4, .tmp 5] [.agg #[.int .i64 p0_0, .int .i64 p0_1, .slice A0_2p p0_2.length c0_2p, .int .i64 p0_3, .int .i64 p0_4], .int .i64 p1, undef, undef, undef, undef, undef, undef, undef, undef, undef, undef, undef, undef, undef, undef, undef, undef, undef, undef] Try.func28 rfl rfl rfl ?_
  intro w Q hQr hQn hQp
  replace H := topE H
  unfold spec_RowOf.f at H
  refine HT_seq_k ?_
  intro K1 hK1
  refine HT_region ?_
  refine HL_cons rfl ?_
  refine o_boxH hH rfl ?_
  intro b2 s2 hH' hG
  replace hH : Hp sb s F0 s2 [Ck.ov b2 [.int .i64 p0_0, .int .i64 p0_1, .slice A0_2p p0_2.length c0_2p, .int .i64 p0_3, .int .i64 p0_4] 27] := hH'
  clear hH' hG
  try dsimp only [putL, setL, evL, getL]
  refine HL_cons rfl ?_
  refine o_assign ?_
  try dsimp only [putL, setL, evL, getL]
  refine HL_cons rfl ?_
  refine o_assign ?_
  try dsimp only [putL, setL, evL, getL]
  refine HL_nil ?_
  refine hK1 _ _ ?_
  refine HT_seq_k ?_
  intro K15 hK15
  refine joinH H fun G16 hG16 H => ?_
  refine HT_joinK (fun l' s' => ∃ (x20 : Bool), G16 x20 = some r ∧ l' = [.agg #[.int .i64 p0_0, .int .i64 p0_1, .slice A0_2p p0_2.length c0_2p, .int .i64 p0_3, .int .i64 p0_4], .int .i64 p1, .pointer (some ⟨b2, 0, none⟩), undef, .slice none 0 0, .bool false, getL l' 6, getL l' 7, getL l' 8, getL l' 9, getL l' 10, getL l' 11, getL l' 12, getL l' 13, getL l' 14, getL l' 15, .bool x20, undef, undef, undef] ∧ Hp sb s F0 s' [Ck.ov b2 [.int .i64 p0_0, .int .i64 p0_1, .slice A0_2p p0_2.length c0_2p, .int .i64 p0_3, .int .i64 p0_4] 27]) ?_ ?_
  · intro K16 hK16
    refine HT_region ?_
    refine HL_cons rfl ?_
    refine o_loads' [.int .i64 p0_0, .int .i64 p0_1, .slice A0_2p p0_2.length c0_2p, .int .i64 p0_3, .int .i64 p0_4] rfl Try.underlying27 rfl tI27 rfl (hH.partv 0 rfl (0) [.int .i64 p0_0, .int .i64 p0_1, .slice A0_2p p0_2.length c0_2p, .int .i64 p0_3, .int .i64 p0_4] rfl) ?_
    try dsimp only [putL, setL, evL, getL]
    obtain ⟨u21, hu21, H⟩ := headE H
    refine HL_cons rfl ?_
    refine o_call (args := #[.agg #[.int .i64 p0_0, .int .i64 p0_1, .slice A0_2p p0_2.length c0_2p, .int .i64 p0_3, .int .i64 p0_4]]) Try.func10 rfl rfl rfl (spec_GoodScreen.ok sb s2 no p0_0 p0_1 A0_2p c0_2p p0_2 p0_3 p0_4 HRp0_2 (Hp.own hH.bs) _ hu21) ?_
    rintro _ s21 ⟨rfl, hD⟩
    replace hH := hH.back0 hD (Up.refl _ _ _)
    clear hD
    dsimp only [addC, setC, rmC, selC, getC] at hH
    try dsimp only [putL, setL, evL, getL]
    refine HL_cons rfl ?_
    refine o_not rfl ?_
    try dsimp only [putL, setL, evL, getL]
    refine HL_cons rfl ?_
    refine o_move ?_
    try dsimp only [putL, setL, evL, getL]
    rcases Bool.eq_false_or_eq_true (!u21) with hb22 | hb22
    · replace H := iteT hb22 H
      refine HL_skip ?_ ?_
      · exact wantF (j := 3) (b := false) (t := 9) (c := !u21) rfl rfl rfl rfl hb22
      try dsimp only [putL, setL, evL, getL]
      refine HL_skip ?_ ?_
      · exact wantF (j := 3) (b := false) (t := 9) (c := !u21) rfl rfl rfl rfl hb22
      try dsimp only [putL, setL, evL, getL]
      refine HL_skip ?_ ?_
      · exact wantF (j := 3) (b := false) (t := 9) (c := !u21) rfl rfl rfl rfl hb22
      try dsimp only [putL, setL, evL, getL]
      refine HL_skip ?_ ?_
      · exact wantF (j := 3) (b := false) (t := 9) (c := !u21) rfl rfl rfl rfl hb22
      try dsimp only [putL, setL, evL, getL]
      refine HL_skip ?_ ?_
      · exact wantF (j := 3) (b := false) (t := 9) (c := !u21) rfl rfl rfl rfl hb22
      try dsimp only [putL, setL, evL, getL]
      refine HL_skip ?_ ?_
      · exact wantF (j := 3) (b := false) (t := 9) (c := !u21) rfl rfl rfl rfl hb22
      try dsimp only [putL, setL, evL, getL]
      refine HL_cons rfl ?_
      refine o_pickT rfl hb22 ?_
      try dsimp only [putL, setL, evL, getL]
      refine HL_nil ?_
      exact hK16 _ _ ⟨true, H, rfl, hH⟩
    · replace H := iteF hb22 H
      refine HL_want ?_ ?_
      · exact wantT (j := 3) (b := false) (t := 9) (c := !u21) rfl rfl rfl rfl hb22
      refine o_move ?_
      try dsimp only [putL, setL, evL, getL]
      refine HL_want ?_ ?_
      · exact wantT (j := 3) (b := false) (t := 9) (c := !u21) rfl rfl rfl rfl hb22
      refine o_faddr' (ft := 3) (off := 1) rfl Try.underlying27 rfl tI3 (by decide) ?_
      try dsimp only [putL, setL, evL, getL]
      refine HL_want ?_ ?_
      · exact wantT (j := 3) (b := false) (t := 9) (c := !u21) rfl rfl rfl rfl hb22
      refine o_load' rfl Try.underlying3 rfl (hH.hasv 0 rfl rfl) ?_
      try dsimp only [putL, setL, evL, getL]
      refine HL_want ?_ ?_
      · exact wantT (j := 3) (b := false) (t := 9) (c := !u21) rfl rfl rfl rfl hb22
      refine o_bin rfl rfl rfl ?_
      try dsimp only [putL, setL, evL, getL]
      obtain ⟨u23, hu23, H⟩ := headE H
      refine HL_want ?_ ?_
      · exact wantT (j := 3) (b := false) (t := 9) (c := !u21) rfl rfl rfl rfl hb22
      refine o_call (args := #[.int .i64 p1, .int .i64 0, .int .i64 (IntKind.i64.wrap (p0_1 - 1))]) Try.func31 rfl rfl rfl (spec_l1In.ok sb s21 no p1 0 (IntKind.i64.wrap (p0_1 - 1)) (Hp.own hH.bs) _ hu23) ?_
      rintro _ s23 ⟨rfl, hD⟩
      replace hH := hH.back0 hD (Up.refl _ _ _)
      clear hD
      dsimp only [addC, setC, rmC, selC, getC] at hH
      try dsimp only [putL, setL, evL, getL]
      refine HL_want ?_ ?_
      · exact wantT (j := 3) (b := false) (t := 9) (c := !u21) rfl rfl rfl rfl hb22
      refine o_not rfl ?_
      try dsimp only [putL, setL, evL, getL]
      refine HL_cons rfl ?_
      refine o_pickF rfl hb22 ?_
      try dsimp only [putL, setL, evL, getL]
      refine HL_nil ?_
      exact hK16 _ _ ⟨!u23, H, rfl, hH⟩
  · rintro l' s24 ⟨x20, H, hl, hH⟩
    generalize getL l' 6 = j6, getL l' 7 = j7, getL l' 8 = j8, getL l' 9 = j9, getL l' 10 = j10, getL l' 11 = j11, getL l' 12 = j12, getL l' 13 = j13, getL l' 14 = j14, getL l' 15 = j15 at hl
    subst hl
    replace H := hG16 _ H
    try dsimp only at H
    rcases Bool.eq_false_or_eq_true x20 with hb25 | hb25
    · replace H := iteT hb25 H
      refine HT_true (congrArg Value.bool hb25) ?_
      refine HT_seq_k ?_
      intro K26 hK26
      refine HT_region ?_
      refine HL_cons rfl ?_
      refine o_assign ?_
      try dsimp only [putL, setL, evL, getL]
      refine HL_cons rfl ?_
      refine o_assign ?_
      try dsimp only [putL, setL, evL, getL]
      refine HL_nil ?_
      refine hK26 _ _ ?_
      refine HT_ret ?_
      obtain rfl := Option.some.inj (show some _ = some r from H)
      exact hQr _ _ [.slice none 0 0, .bool false] ⟨rfl, rfl, trivial⟩ ⟨none, 0, rfl, (hH.nil (K := KI) OI 3).sel [1] (by decide)⟩
    · replace H := iteF hb25 H
      refine HT_false (congrArg Value.bool hb25) ?_
      refine HT_skip ?_
      refine hK15 _ _ ?_
      refine HT_seq_k ?_
      intro K27 hK27
      refine HT_region ?_
      refine HL_cons rfl ?_
      refine o_loads' [.int .i64 p0_0, .int .i64 p0_1, .slice A0_2p p0_2.length c0_2p, .int .i64 p0_3, .int .i64 p0_4] rfl Try.underlying27 rfl tI27 rfl (hH.partv 0 rfl (0) [.int .i64 p0_0, .int .i64 p0_1, .slice A0_2p p0_2.length c0_2p, .int .i64 p0_3, .int .i64 p0_4] rfl) ?_
      try dsimp only [putL, setL, evL, getL]
      refine HL_cons rfl ?_
      refine o_move ?_
      try dsimp only [putL, setL, evL, getL]
      obtain ⟨u28, hu28, H⟩ := headE H
      refine HL_cons rfl ?_
      refine o_call (args := #[.agg #[.int .i64 p0_0, .int .i64 p0_1, .slice A0_2p p0_2.length c0_2p, .int .i64 p0_3, .int .i64 p0_4], .int .i64 p1]) Try.func53 rfl rfl rfl (spec_l16Row.ok sb s24 no p0_0 p0_1 A0_2p c0_2p p0_2 p0_3 p0_4 p1 HRp0_2 (Hp.own hH.bs) _ hu28) ?_
      rintro _ s28 ⟨A29, c29, rfl, hD⟩
      replace hH := hH.back0 hD (Up.refl _ _ _)
      clear hD
      dsimp only [addC, setC, rmC, selC, getC] at hH
      try dsimp only [putL, setL, evL, getL]
      refine HL_cons rfl ?_
      refine o_assign ?_
      try dsimp only [putL, setL, evL, getL]
      refine HL_cons rfl ?_
      refine o_assign ?_
      try dsimp only [putL, setL, evL, getL]
      refine HL_nil ?_
      refine hK27 _ _ ?_
      refine HT_ret ?_
      obtain rfl := Option.some.inj (show some _ = some r from H)
      exact hQr _ _ [.slice A29 u28.length c29, .bool true] ⟨rfl, rfl, trivial⟩ ⟨A29, c29, rfl, hH.sel [1] (by decide)⟩
def impl_inRange.f (p0 : Int) (p1 : Int) (p2 : Int) : Option Bool := if (decide (p1 ≤ p0)) = true then (some (decide (p0 ≤ p2))) else (some false)
def impl_inRange.post (sb s : St) (F0 : Fp) (r : Bool) : Value → St → Prop := fun v s' => v = .bool r ∧ Hp sb s F0 s' []
set_option maxRecDepth 100000 in
set_option maxHeartbeats 4000000 in
theorem impl_inRange.ok (sb s : St) (F0 : Fp) (p0 : Int) (p1 : Int) (p2 : Int) (hH : Hp sb s F0 s []) (r : Bool) (H : impl_inRange.f p0 p1 p2 = some r) : GCall Try.prog 34 #[.int .i64 p0, .int .i64 p1, .int .i64 p2] s (impl_inRange.post sb s F0 r) := by
  refine GCall_ofk [.tmp 6] [.int .i64 p0, .int .i64 p1, .int .i64 p2, undef, undef, undef, undef, undef, undef, undef, undef, undef, undef, undef, undef] Try.func34 rfl rfl rfl ?_
  intro w Q hQr hQn hQp
  replace H := topE H
  unfold impl_inRange.f at H
  refine HT_seq_k ?_
  intro K1 hK1
  refine HT_region ?_
  refine HL_cons rfl ?_
  refine o_assign ?_
  try dsimp only [putL, setL, evL, getL]
  refine HL_nil ?_
  refine hK1 _ _ ?_
  refine HT_seq_k ?_
  intro K2 hK2
  refine HT_region ?_
  refine HL_cons rfl ?_
  refine o_move ?_
  try dsimp only [putL, setL, evL, getL]
  refine HL_cons rfl ?_
  refine o_move ?_
  try dsimp only [putL, setL, evL, getL]
  refine HL_cons rfl ?_
  refine o_bin rfl rfl rfl ?_
  try dsimp only [putL, setL, evL, getL]
  refine HL_cons rfl ?_
  refine o_move ?_
  try dsimp only [putL, setL, evL, getL]
  rcases Bool.eq_false_or_eq_true (decide (p1 ≤ p0)) with hb3 | hb3
  · replace H := iteT hb3 H
    refine HL_want ?_ ?_
    · exact wantT (j := 3) (b := true) (t := 10) (c := decide (p1 ≤ p0)) rfl rfl rfl rfl hb3
    refine o_move ?_
    try dsimp only [putL, setL, evL, getL]
    refine HL_want ?_ ?_
    · exact wantT (j := 3) (b := true) (t := 10) (c := decide (p1 ≤ p0)) rfl rfl rfl rfl hb3
    refine o_move ?_
    try dsimp only [putL, setL, evL, getL]
    refine HL_want ?_ ?_
    · exact wantT (j := 3) (b := true) (t := 10) (c := decide (p1 ≤ p0)) rfl rfl rfl rfl hb3
    refine o_bin rfl rfl rfl ?_
    try dsimp only [putL, setL, evL, getL]
    refine HL_cons rfl ?_
    refine o_pickT rfl hb3 ?_
    try dsimp only [putL, setL, evL, getL]
    refine HL_cons rfl ?_
    refine o_assign ?_
    try dsimp only [putL, setL, evL, getL]
    refine HL_nil ?_
    refine hK2 _ _ ?_
    refine HT_ret ?_
    obtain rfl := Option.some.inj (show some _ = some r from H)
    exact hQr _ _ [.bool (decide (p0 ≤ p2))] ⟨rfl, trivial⟩ ⟨rfl, hH⟩
  · replace H := iteF hb3 H
    refine HL_skip ?_ ?_
    · exact wantF (j := 3) (b := true) (t := 10) (c := decide (p1 ≤ p0)) rfl rfl rfl rfl hb3
    try dsimp only [putL, setL, evL, getL]
    refine HL_skip ?_ ?_
    · exact wantF (j := 3) (b := true) (t := 10) (c := decide (p1 ≤ p0)) rfl rfl rfl rfl hb3
    try dsimp only [putL, setL, evL, getL]
    refine HL_skip ?_ ?_
    · exact wantF (j := 3) (b := true) (t := 10) (c := decide (p1 ≤ p0)) rfl rfl rfl rfl hb3
    try dsimp only [putL, setL, evL, getL]
    refine HL_cons rfl ?_
    refine o_pickF rfl hb3 ?_
    try dsimp only [putL, setL, evL, getL]
    refine HL_cons rfl ?_
    refine o_assign ?_
    try dsimp only [putL, setL, evL, getL]
    refine HL_nil ?_
    refine hK2 _ _ ?_
    refine HT_ret ?_
    obtain rfl := Option.some.inj (show some _ = some r from H)
    exact hQr _ _ [.bool false] ⟨rfl, trivial⟩ ⟨rfl, hH⟩
def impl_isPlace.f (p0 : Int) (p1 : Int) : Option Bool := (impl_inRange.f p0 0 (IntKind.i64.wrap (p1 - 1))).bind fun u3 => some u3
def impl_isPlace.post (sb s : St) (F0 : Fp) (r : Bool) : Value → St → Prop := fun v s' => v = .bool r ∧ Hp sb s F0 s' []
set_option maxRecDepth 100000 in
set_option maxHeartbeats 4000000 in
theorem impl_isPlace.ok (sb s : St) (F0 : Fp) (p0 : Int) (p1 : Int) (hH : Hp sb s F0 s []) (r : Bool) (H : impl_isPlace.f p0 p1 = some r) : GCall Try.prog 35 #[.int .i64 p0, .int .i64 p1] s (impl_isPlace.post sb s F0 r) := by
  refine GCall_ofk [.tmp 4] [.int .i64 p0, .int .i64 p1, undef, undef, undef, undef, undef, undef, undef] Try.func35 rfl rfl rfl ?_
  intro w Q hQr hQn hQp
  replace H := topE H
  unfold impl_isPlace.f at H
  refine HT_seq_k ?_
  intro K1 hK1
  refine HT_region ?_
  refine HL_cons rfl ?_
  refine o_assign ?_
  try dsimp only [putL, setL, evL, getL]
  refine HL_nil ?_
  refine hK1 _ _ ?_
  refine HT_seq_k ?_
  intro K2 hK2
  refine HT_region ?_
  refine HL_cons rfl ?_
  refine o_move ?_
  try dsimp only [putL, setL, evL, getL]
  refine HL_cons rfl ?_
  refine o_move ?_
  try dsimp only [putL, setL, evL, getL]
  refine HL_cons rfl ?_
  refine o_bin rfl rfl rfl ?_
  try dsimp only [putL, setL, evL, getL]
  obtain ⟨u3, hu3, H⟩ := headE H
  refine HL_cons rfl ?_
  refine o_call (args := #[.int .i64 p0, .int .i64 0, .int .i64 (IntKind.i64.wrap (p1 - 1))]) Try.func34 rfl rfl rfl (impl_inRange.ok sb s no p0 0 (IntKind.i64.wrap (p1 - 1)) (Hp.own hH.bs) _ hu3) ?_
  rintro _ s3 ⟨rfl, hD⟩
  replace hH := hH.back0 hD (Up.refl _ _ _)
  clear hD
  dsimp only [addC, setC, rmC, selC, getC] at hH
  try dsimp only [putL, setL, evL, getL]
  refine HL_cons rfl ?_
  refine o_assign ?_
  try dsimp only [putL, setL, evL, getL]
  refine HL_nil ?_
  refine hK2 _ _ ?_
  refine HT_ret ?_
  obtain rfl := Option.some.inj (show some _ = some r from H)
  exact hQr _ _ [.bool u3] ⟨rfl, trivial⟩ ⟨rfl, hH⟩
def impl_GoodRune.f (p0 : Int) : Option Bool := (impl_inRange.f p0 0 1114111).bind fun u3 => if u3 = true then ((impl_inRange.f p0 55296 57343).bind fun u5 => some (!u5)) else (some false)
def impl_GoodRune.post (sb s : St) (F0 : Fp) (r : Bool) : Value → St → Prop := fun v s' => v = .bool r ∧ Hp sb s F0 s' []
set_option maxRecDepth 100000 in
set_option maxHeartbeats 4000000 in
theorem impl_GoodRune.ok (sb s : St) (F0 : Fp) (p0 : Int) (hH : Hp sb s F0 s []) (r : Bool) (H : impl_GoodRune.f p0 = some r) : GCall Try.prog 38 #[.int .i64 p0] s (impl_GoodRune.post sb s F0 r) := by
  refine GCall_ofk [.tmp 2] [.int .i64 p0, undef, undef, undef, undef, undef, undef, undef, undef, undef] Try.func38 rfl rfl rfl ?_
  intro w Q hQr hQn hQp
  replace H := topE H
  unfold impl_GoodRune.f at H
  refine HT_seq_k ?_
  intro K1 hK1
  refine HT_region ?_
  refine HL_cons rfl ?_
  refine o_assign ?_
  try dsimp only [putL, setL, evL, getL]
  refine HL_nil ?_
  refine hK1 _ _ ?_
  refine HT_seq_k ?_
  intro K2 hK2
  refine HT_region ?_
  refine HL_cons rfl ?_
  refine o_move ?_
  try dsimp only [putL, setL, evL, getL]
  obtain ⟨u3, hu3, H⟩ := headE H
  refine HL_cons rfl ?_
  refine o_call (args := #[.int .i64 p0, .int .i64 0, .int .i64 1114111]) Try.func34 rfl rfl rfl (impl_inRange.ok sb s no p0 0 1114111 (Hp.own hH.bs) _ hu3) ?_
  rintro _ s3 ⟨rfl, hD⟩
  replace hH := hH.back0 hD (Up.refl _ _ _)
  clear hD
  dsimp only [addC, setC, rmC, selC, getC] at hH
  try dsimp only [putL, setL, evL, getL]
  refine HL_cons rfl ?_
  refine o_move ?_
  try dsimp only [putL, setL, evL, getL]
  rcases Bool.eq_false_or_eq_true u3 with hb4 | hb4
  · replace H := iteT hb4 H
    refine HL_want ?_ ?_
    · exact wantT (j := 2) (b := true) (t := 5) (c := u3) rfl rfl rfl rfl hb4
    refine o_move ?_
    try dsimp only [putL, setL, evL, getL]
    obtain ⟨u5, hu5, H⟩ := headE H
    refine HL_want ?_ ?_
    · exact wantT (j := 2) (b := true) (t := 5) (c := u3) rfl rfl rfl rfl hb4
    refine o_call (args := #[.int .i64 p0, .int .i64 55296, .int .i64 57343]) Try.func34 rfl rfl rfl (impl_inRange.ok sb s3 no p0 55296 57343 (Hp.own hH.bs) _ hu5) ?_
    rintro _ s5 ⟨rfl, hD⟩
    replace hH := hH.back0 hD (Up.refl _ _ _)
    clear hD
    dsimp only [addC, setC, rmC, selC, getC] at hH
    try dsimp only [putL, setL, evL, getL]
    refine HL_want ?_ ?_
    · exact wantT (j := 2) (b := true) (t := 5) (c := u3) rfl rfl rfl rfl hb4
    refine o_not rfl ?_
    try dsimp only [putL, setL, evL, getL]
    refine HL_cons rfl ?_
    refine o_pickT rfl hb4 ?_
    try dsimp only [putL, setL, evL, getL]
    refine HL_cons rfl ?_
    refine o_assign ?_
    try dsimp only [putL, setL, evL, getL]
    refine HL_nil ?_
    refine hK2 _ _ ?_
    refine HT_ret ?_
    obtain rfl := Option.some.inj (show some _ = some r from H)
    exact hQr _ _ [.bool (!u5)] ⟨rfl, trivial⟩ ⟨rfl, hH⟩
  · replace H := iteF hb4 H
    refine HL_skip ?_ ?_
    · exact wantF (j := 2) (b := true) (t := 5) (c := u3) rfl rfl rfl rfl hb4
    try dsimp only [putL, setL, evL, getL]
    refine HL_skip ?_ ?_
    · exact wantF (j := 2) (b := true) (t := 5) (c := u3) rfl rfl rfl rfl hb4
    try dsimp only [putL, setL, evL, getL]
    refine HL_skip ?_ ?_
    · exact wantF (j := 2) (b := true) (t := 5) (c := u3) rfl rfl rfl rfl hb4
    try dsimp only [putL, setL, evL, getL]
    refine HL_cons rfl ?_
    refine o_pickF rfl hb4 ?_
    try dsimp only [putL, setL, evL, getL]
    refine HL_cons rfl ?_
    refine o_assign ?_
    try dsimp only [putL, setL, evL, getL]
    refine HL_nil ?_
    refine hK2 _ _ ?_
    refine HT_ret ?_
    obtain rfl := Option.some.inj (show some _ = some r from H)
    exact hQr _ _ [.bool false] ⟨rfl, trivial⟩ ⟨rfl, hH⟩
def impl_GoodScreen_1.f (p0 : Int) : Option Bool := if (decide (p0 < 32)) = true then (some true) else ((impl_GoodRune.f p0).bind fun u4 => some (!u4))
def impl_GoodScreen_1.post (sb s : St) (F0 : Fp) (r : Bool) : Value → St → Prop := fun v s' => v = .bool r ∧ Hp sb s F0 s' []
set_option maxRecDepth 100000 in
set_option maxHeartbeats 4000000 in
theorem impl_GoodScreen_1.ok (sb s : St) (F0 : Fp) (p0 : Int) (hH : Hp sb s F0 s []) (r : Bool) (H : impl_GoodScreen_1.f p0 = some r) : GCall Try.prog 37 #[.int .i64 p0] s (impl_GoodScreen_1.post sb s F0 r) := by
  refine GCall_ofk [.tmp 2] [.int .i64 p0, undef, undef, undef, undef, undef, undef, undef, undef, undef] Try.func37 rfl rfl rfl ?_
  intro w Q hQr hQn hQp
  replace H := topE H
  unfold impl_GoodScreen_1.f at H
  refine HT_seq_k ?_
  intro K1 hK1
  refine HT_region ?_
  refine HL_cons rfl ?_
  refine o_assign ?_
  try dsimp only [putL, setL, evL, getL]
  refine HL_nil ?_
  refine hK1 _ _ ?_
  refine HT_seq_k ?_
  intro K2 hK2
  refine HT_region ?_
  refine HL_cons rfl ?_
  refine o_move ?_
  try dsimp only [putL, setL, evL, getL]
  refine HL_cons rfl ?_
  refine o_bin rfl rfl rfl ?_
  try dsimp only [putL, setL, evL, getL]
  refine HL_cons rfl ?_
  refine o_move ?_
  try dsimp only [putL, setL, evL, getL]
  rcases Bool.eq_false_or_eq_true (decide (p0 < 32)) with hb3 | hb3
  · replace H := iteT hb3 H
    refine HL_skip ?_ ?_
    · exact wantF (j := 2) (b := false) (t := 5) (c := decide (p0 < 32)) rfl rfl rfl rfl hb3
    try dsimp only [putL, setL, evL, getL]
    refine HL_skip ?_ ?_
    · exact wantF (j := 2) (b := false) (t := 5) (c := decide (p0 < 32)) rfl rfl rfl rfl hb3
    try dsimp only [putL, setL, evL, getL]
    refine HL_skip ?_ ?_
    · exact wantF (j := 2) (b := false) (t := 5) (c := decide (p0 < 32)) rfl rfl rfl rfl hb3
    try dsimp only [putL, setL, evL, getL]
    refine HL_cons rfl ?_
    refine o_pickT rfl hb3 ?_
    try dsimp only [putL, setL, evL, getL]
    refine HL_cons rfl ?_
    refine o_assign ?_
    try dsimp only [putL, setL, evL, getL]
    refine HL_nil ?_
    refine hK2 _ _ ?_
    refine HT_ret ?_
    obtain rfl := Option.some.inj (show some _ = some r from H)
    exact hQr _ _ [.bool true] ⟨rfl, trivial⟩ ⟨rfl, hH⟩
  · replace H := iteF hb3 H
    refine HL_want ?_ ?_
    · exact wantT (j := 2) (b := false) (t := 5) (c := decide (p0 < 32)) rfl rfl rfl rfl hb3
    refine o_move ?_
    try dsimp only [putL, setL, evL, getL]
    obtain ⟨u4, hu4, H⟩ := headE H
    refine HL_want ?_ ?_
    · exact wantT (j := 2) (b := false) (t := 5) (c := decide (p0 < 32)) rfl rfl rfl rfl hb3
    refine o_call (args := #[.int .i64 p0]) Try.func38 rfl rfl rfl (impl_GoodRune.ok sb s no p0 (Hp.own hH.bs) _ hu4) ?_
    rintro _ s4 ⟨rfl, hD⟩
    replace hH := hH.back0 hD (Up.refl _ _ _)
    clear hD
    dsimp only [addC, setC, rmC, selC, getC] at hH
    try dsimp only [putL, setL, evL, getL]
    refine HL_want ?_ ?_
    · exact wantT (j := 2) (b := false) (t := 5) (c := decide (p0 < 32)) rfl rfl rfl rfl hb3
    refine o_not rfl ?_
    try dsimp only [putL, setL, evL, getL]
    refine HL_cons rfl ?_
    refine o_pickF rfl hb3 ?_
    try dsimp only [putL, setL, evL, getL]
    refine HL_cons rfl ?_
    refine o_assign ?_
    try dsimp only [putL, setL, evL, getL]
    refine HL_nil ?_
    refine hK2 _ _ ?_
    refine HT_ret ?_
    obtain rfl := Option.some.inj (show some _ = some r from H)
    exact hQr _ _ [.bool (!u4)] ⟨rfl, trivial⟩ ⟨rfl, hH⟩
def slices_IndexFunc_int_int_impl_GoodScreen_1.l1 (p0 : List (Int)) : Nat → Int → Option (Lo Unit Int)
  | 0, _ => none
  | kf + 1, x48 => if (decide (x48 < (p0.length : Int))) = true then ((rd? p0 x48).bind fun u67 => (impl_GoodScreen_1.f u67).bind fun u68 => if u68 = true then ((some x48).bind fun z => some (Lo.ret z)) else (slices_IndexFunc_int_int_impl_GoodScreen_1.l1 p0 kf (IntKind.i64.wrap (x48 + 1)))) else (some (Lo.go ()))
def slices_IndexFunc_int_int_impl_GoodScreen_1.f (p0 : List (Int)) : Option Int := (slices_IndexFunc_int_int_impl_GoodScreen_1.l1 p0 ((((p0.length : Int)) - (0)).toNat + 2) 0).bind fun (o : Lo Unit Int) => match o with | .go () => (some (-1)) | .ret z => some z
def slices_IndexFunc_int_int_impl_GoodScreen_1.post (sb s : St) (F0 : Fp) (r : Int) : Value → St → Prop := fun v s' => v = .int .i64 r ∧ Hp sb s F0 s' []
set_option maxRecDepth 100000 in
set_option maxHeartbeats 4000000 in
theorem slices_IndexFunc_int_int_impl_GoodScreen_1.ok (sb s : St) (F0 : Fp) (A0p : Option Addr) (c0p : Nat) (p0 : List (Int)) (HRp0 : Rd KI sb A0p c0p p0) (hH : Hp sb s F0 s []) (r : Int) (H : slices_IndexFunc_int_int_impl_GoodScreen_1.f p0 = some r) : GCall Try.prog 56 #[.slice A0p p0.length c0p, .func (.func 37) #[] #[]] s (slices_IndexFunc_int_int_impl_GoodScreen_1.post sb s F0 r) := by
  refine GCall_ofk [.tmp 4] [.slice A0p p0.length c0p, .func (.func 37) #[] #[], undef, undef, undef, undef, undef, undef, undef, undef, undef, undef, undef, undef, undef, undef, undef, undef, undef] Try.func56 rfl rfl rfl ?_
  intro w Q hQr hQn hQp
  replace H := topE H
  unfold slices_IndexFunc_int_int_impl_GoodScreen_1.f at H
  refine HT_seq_k ?_
  intro K1 hK1
  refine HT_region ?_
  refine HL_cons rfl ?_
  refine o_assign ?_
  try dsimp only [putL, setL, evL, getL]
  refine HL_nil ?_
  refine hK1 _ _ ?_
  refine HT_seq_k ?_
  intro K2 hK2
  refine HT_seq_k ?_
  intro K3 hK3
  refine HT_region ?_
  refine HL_cons rfl ?_
  refine o_move ?_
  try dsimp only [putL, setL, evL, getL]
  refine HL_cons rfl ?_
  refine o_len rfl Try.underlying22 ?_
  try dsimp only [putL, setL, evL, getL]
  refine HL_cons rfl ?_
  refine o_move ?_
  try dsimp only [putL, setL, evL, getL]
  refine HL_nil ?_
  refine hK3 _ _ ?_
  refine joinH H fun G4 hG4 H => ?_
  refine HT_toK (fun l' s' => G4 (.go ()) = some r ∧ l' = [.slice A0p p0.length c0p, .func (.func 37) #[] #[], undef, undef, getL l' 4, getL l' 5, .slice A0p p0.length c0p, .int .i64 (p0.length : Int), getL l' 8, getL l' 9, getL l' 10, getL l' 11, getL l' 12, getL l' 13, getL l' 14, getL l' 15, getL l' 16, getL l' 17, getL l' 18] ∧ Hp sb s F0 s' []) ?_ ?_
  · intro K4 hK4
    refine HT_block ?_
    refine HT_loopK (fun kf l' s' => ∃ (x48 : Int), (slices_IndexFunc_int_int_impl_GoodScreen_1.l1 p0 kf x48).bind G4 = some r ∧ l' = [.slice A0p p0.length c0p, .func (.func 37) #[] #[], undef, undef, getL l' 4, getL l' 5, .slice A0p p0.length c0p, .int .i64 (p0.length : Int), .int .i64 x48, getL l' 9, getL l' 10, getL l' 11, getL l' 12, getL l' 13, getL l' 14, getL l' 15, getL l' 16, getL l' 17, getL l' 18] ∧ Hp sb s F0 s' []) ((((p0.length : Int)) - (0)).toNat + 2) ⟨0, H, rfl, hH⟩ ?_
    rintro kf l' s60 ⟨x48, H, hl, hH⟩ K60 hK60
    generalize getL l' 4 = j4, getL l' 5 = j5, getL l' 9 = j9, getL l' 10 = j10, getL l' 11 = j11, getL l' 12 = j12, getL l' 13 = j13, getL l' 14 = j14, getL l' 15 = j15, getL l' 16 = j16, getL l' 17 = j17, getL l' 18 = j18 at hl
    subst hl
    cases kf with
    | zero => simp [slices_IndexFunc_int_int_impl_GoodScreen_1.l1] at H
    | succ kf =>
      rw [slices_IndexFunc_int_int_impl_GoodScreen_1.l1] at H
      refine HT_seq_k ?_
      intro K61 hK61
      refine HT_region ?_
      refine HL_cons rfl ?_
      refine o_bin rfl rfl rfl ?_
      try dsimp only [putL, setL, evL, getL]
      refine HL_nil ?_
      refine hK61 _ _ ?_
      refine HT_seq_k ?_
      intro K62 hK62
      rcases Bool.eq_false_or_eq_true (decide (x48 < (p0.length : Int))) with hb63 | hb63
      · replace H := iteT hb63 H
        refine HT_true (congrArg Value.bool hb63) ?_
        refine HT_skip ?_
        refine hK62 _ _ ?_
        refine HT_seq_k ?_
        intro K64 hK64
        refine HT_block ?_
        refine HT_seq_k ?_
        intro K65 hK65
        refine HT_region ?_
        refine HL_cons rfl ?_
        refine o_move ?_
        try dsimp only [putL, setL, evL, getL]
        refine HL_cons rfl ?_
        refine o_assign ?_
        try dsimp only [putL, setL, evL, getL]
        refine HL_nil ?_
        refine hK65 _ _ ?_
        refine HT_seq_k ?_
        intro K66 hK66
        refine HT_region ?_
        refine HL_cons rfl ?_
        refine o_move ?_
        try dsimp only [putL, setL, evL, getL]
        refine HL_cons rfl ?_
        refine o_move ?_
        try dsimp only [putL, setL, evL, getL]
        refine HL_cons rfl ?_
        refine o_move ?_
        try dsimp only [putL, setL, evL, getL]
        obtain ⟨u67, hu67, H⟩ := headE H
        obtain ⟨b67, o67, cs67, hr67, hh67, hel67⟩ := Rd.elb HRp0 hu67
        obtain rfl := hr67
        refine HL_cons rfl ?_
        refine hel67 s60 rfl rfl Try.underlying22 tI3 ?_
        try dsimp only [putL, setL, evL, getL]
        refine HL_cons rfl ?_
        refine o_load' rfl Try.underlying3 rfl ((hh67 hH.bs.mono) 0 _ rfl) ?_
        try dsimp only [putL, setL, evL, getL]
        obtain ⟨u68, hu68, H⟩ := headE H
        refine HL_cons rfl ?_
        refine o_callv (first := #[]) (cap := #[]) (args := #[.int .i64 u67]) rfl Try.func37 rfl rfl [.int .i64 u67] rfl (by simp) (impl_GoodScreen_1.ok sb s60 no u67 (Hp.own hH.bs) _ hu68) ?_
        rintro _ s68 ⟨rfl, hD⟩
        replace hH := hH.back0 hD (Up.refl _ _ _)
        clear hD
        dsimp only [addC, setC, rmC, selC, getC] at hH
        try dsimp only [putL, setL, evL, getL]
        refine HL_nil ?_
        refine hK66 _ _ ?_
        rcases Bool.eq_false_or_eq_true u68 with hb69 | hb69
        · replace H := iteT hb69 H
          refine HT_true (congrArg Value.bool hb69) ?_
          refine HT_seq_k ?_
          intro K70 hK70
          refine HT_region ?_
          refine HL_cons rfl ?_
          refine o_move ?_
          try dsimp only [putL, setL, evL, getL]
          refine HL_cons rfl ?_
          refine o_assign ?_
          try dsimp only [putL, setL, evL, getL]
          refine HL_nil ?_
          refine hK70 _ _ ?_
          refine HT_ret ?_
          replace H := escH (fun z hz => hG4 _ hz) H
          obtain rfl := Option.some.inj (show some _ = some r from H)
          exact hQr _ _ [.int .i64 x48] ⟨rfl, trivial⟩ ⟨rfl, hH⟩
        · replace H := iteF hb69 H
          refine HT_false (congrArg Value.bool hb69) ?_
          refine HT_skip ?_
          refine hK64 _ _ ?_
          refine HT_region ?_
          refine HL_cons rfl ?_
          refine o_bin rfl rfl rfl ?_
          try dsimp only [putL, setL, evL, getL]
          refine HL_cons rfl ?_
          refine o_move ?_
          try dsimp only [putL, setL, evL, getL]
          refine HL_nil ?_
          exact hK60 _ _ ⟨kf, Nat.lt_succ_self kf, IntKind.i64.wrap (x48 + 1), H, rfl, hH⟩
      · replace H := iteF hb63 H
        refine HT_false (congrArg Value.bool hb63) ?_
        refine HT_exit ?_
        exact hK4 _ _ ⟨H, rfl, hH⟩
  · rintro l' s71 ⟨H, hl, hH⟩
    generalize getL l' 4 = j4, getL l' 5 = j5, getL l' 8 = j8, getL l' 9 = j9, getL l' 10 = j10, getL l' 11 = j11, getL l' 12 = j12, getL l' 13 = j13, getL l' 14 = j14, getL l' 15 = j15, getL l' 16 = j16, getL l' 17 = j17, getL l' 18 = j18 at hl
    subst hl
    replace H := hG4 _ H
    try dsimp only at H
    refine hK2 _ _ ?_
    refine HT_seq_k ?_
    intro K72 hK72
    refine HT_region ?_
    refine HL_cons rfl ?_
    refine o_assign ?_
    try dsimp only [putL, setL, evL, getL]
    refine HL_nil ?_
    refine hK72 _ _ ?_
    refine HT_ret ?_
    obtain rfl := Option.some.inj (show some _ = some r from H)
    exact hQr _ _ [.int .i64 (-1)] ⟨rfl, trivial⟩ ⟨rfl, hH⟩
def slices_ContainsFunc_int_int_impl_GoodScreen_1.f (p0 : List (Int)) : Option Bool := (slices_IndexFunc_int_int_impl_GoodScreen_1.f p0).bind fun u3 => some (decide (u3 ≥ 0))
def slices_ContainsFunc_int_int_impl_GoodScreen_1.post (sb s : St) (F0 : Fp) (r : Bool) : Value → St → Prop := fun v s' => v = .bool r ∧ Hp sb s F0 s' []
set_option maxRecDepth 100000 in
set_option maxHeartbeats 4000000 in
theorem slices_ContainsFunc_int_int_impl_GoodScreen_1.ok (sb s : St) (F0 : Fp) (A0p : Option Addr) (c0p : Nat) (p0 : List (Int)) (HRp0 : Rd KI sb A0p c0p p0) (hH : Hp sb s F0 s []) (r : Bool) (H : slices_ContainsFunc_int_int_impl_GoodScreen_1.f p0 = some r) : GCall Try.prog 36 #[.slice A0p p0.length c0p, .func (.func 37) #[] #[]] s (slices_ContainsFunc_int_int_impl_GoodScreen_1.post sb s F0 r) := by
  refine GCall_ofk [.tmp 4] [.slice A0p p0.length c0p, .func (.func 37) #[] #[], undef, undef, undef, undef, undef, undef, undef] Try.func36 rfl rfl rfl ?_
  intro w Q hQr hQn hQp
  replace H := topE H
  unfold slices_ContainsFunc_int_int_impl_GoodScreen_1.f at H
  refine HT_seq_k ?_
  intro K1 hK1
  refine HT_region ?_
  refine HL_cons rfl ?_
  refine o_assign ?_
  try dsimp only [putL, setL, evL, getL]
  refine HL_nil ?_
  refine hK1 _ _ ?_
  refine HT_seq_k ?_
  intro K2 hK2
  refine HT_region ?_
  refine HL_cons rfl ?_
  refine o_move ?_
  try dsimp only [putL, setL, evL, getL]
  refine HL_cons rfl ?_
  refine o_move ?_
  try dsimp only [putL, setL, evL, getL]
  obtain ⟨u3, hu3, H⟩ := headE H
  refine HL_cons rfl ?_
  refine o_call (args := #[.slice A0p p0.length c0p, .func (.func 37) #[] #[]]) Try.func56 rfl rfl rfl (slices_IndexFunc_int_int_impl_GoodScreen_1.ok sb s no A0p c0p p0 HRp0 (Hp.own hH.bs) _ hu3) ?_
  rintro _ s3 ⟨rfl, hD⟩
  replace hH := hH.back0 hD (Up.refl _ _ _)
  clear hD
  dsimp only [addC, setC, rmC, selC, getC] at hH
  try dsimp only [putL, setL, evL, getL]
  refine HL_cons rfl ?_
  refine o_bin rfl rfl rfl ?_
  try dsimp only [putL, setL, evL, getL]
  refine HL_cons rfl ?_
  refine o_assign ?_
  try dsimp only [putL, setL, evL, getL]
  refine HL_nil ?_
  refine hK2 _ _ ?_
  refine HT_ret ?_
  obtain rfl := Option.some.inj (show some _ = some r from H)
  exact hQr _ _ [.bool (decide (u3 ≥ 0))] ⟨rfl, trivial⟩ ⟨rfl, hH⟩
def impl_GoodScreen.f (p0_0 : Int) (p0_1 : Int) (p0_2 : List (Int)) (p0_3 : Int) (p0_4 : Int) : Option Bool := (impl_inRange.f p0_0 1 20).bind fun u4 => if u4 = true then ((impl_inRange.f p0_1 1 8).bind fun u6 => if u6 = true then (if ((p0_2.length : Int) == (IntKind.i64.wrap (p0_0 * p0_1))) = true then ((impl_inRange.f p0_3 0 p0_0).bind fun u9 => if u9 = true then ((impl_isPlace.f p0_4 p0_1).bind fun u11 => if u11 = true then ((slices_ContainsFunc_int_int_impl_GoodScreen_1.f p0_2).bind fun u13 => some (!u13)) else (some false)) else (some false)) else (some false)) else (some false)) else (some false)
def impl_GoodScreen.post (sb s : St) (F0 : Fp) (r : Bool) : Value → St → Prop := fun v s' => v = .bool r ∧ Hp sb s F0 s' []
set_option maxRecDepth 100000 in
set_option maxHeartbeats 4000000 in
theorem impl_GoodScreen.ok (sb s : St) (F0 : Fp) (p0_0 : Int) (p0_1 : Int) (A0_2p : Option Addr) (c0_2p : Nat) (p0_2 : List (Int)) (p0_3 : Int) (p0_4 : Int) (HRp0_2 : Rd KI sb A0_2p c0_2p p0_2) (hH : Hp sb s F0 s []) (r : Bool) (H : impl_GoodScreen.f p0_0 p0_1 p0_2 p0_3 p0_4 = some r) : GCall Try.prog 12 #[.agg #[.int .i64 p0_0, .int .i64 p0_1, .slice A0_2p p0_2.length c0_2p, .int .i64 p0_3, .int .i64 p0_4]] s (impl_GoodScreen.post sb s F0 r) := by
  refine GCall_ofk [.tmp 2] [.agg #[.int .i64 p0_0, .int .i64 p0_1, .slice A0_2p p0_2.length c0_2p, .int .i64 p0_3, .int .i64 p0_4], undef, undef, undef, undef, undef, undef, undef, undef, undef, undef, undef, undef, undef, undef, undef, undef, undef, undef, undef, undef, undef, undef, undef, undef, undef, undef, undef, undef, undef, undef, undef, undef, undef, undef, undef, undef, undef, undef, undef, undef, undef] Try.func12 rfl rfl rfl ?_
  intro w Q hQr hQn hQp
  replace H := topE H
  unfold impl_GoodScreen.f at H
  refine HT_seq_k ?_
  intro K1 hK1
  refine HT_region ?_
  refine HL_cons rfl ?_
  refine o_boxH hH rfl ?_
  intro b2 s2 hH' hG
  replace hH : Hp sb s F0 s2 [Ck.ov b2 [.int .i64 p0_0, .int .i64 p0_1, .slice A0_2p p0_2.length c0_2p, .int .i64 p0_3, .int .i64 p0_4] 27] := hH'
  clear hH' hG
  try dsimp only [putL, setL, evL, getL]
  refine HL_cons rfl ?_
  refine o_assign ?_
  try dsimp only [putL, setL, evL, getL]
  refine HL_nil ?_
  refine hK1 _ _ ?_
  refine HT_seq_k ?_
  intro K3 hK3
  refine HT_region ?_
  refine HL_cons rfl ?_
  refine o_faddr' (ft := 3) (off := 0) rfl Try.underlying27 rfl tI3 (by decide) ?_
  try dsimp only [putL, setL, evL, getL]
  refine HL_cons rfl ?_
  refine o_load' rfl Try.underlying3 rfl (hH.hasv 0 rfl rfl) ?_
  try dsimp only [putL, setL, evL, getL]
  obtain ⟨u4, hu4, H⟩ := headE H
  refine HL_cons rfl ?_
  refine o_call (args := #[.int .i64 p0_0, .int .i64 1, .int .i64 20]) Try.func34 rfl rfl rfl (impl_inRange.ok sb s2 no p0_0 1 20 (Hp.own hH.bs) _ hu4) ?_
  rintro _ s4 ⟨rfl, hD⟩
  replace hH := hH.back0 hD (Up.refl _ _ _)
  clear hD
  dsimp only [addC, setC, rmC, selC, getC] at hH
  try dsimp only [putL, setL, evL, getL]
  refine HL_cons rfl ?_
  refine o_move ?_
  try dsimp only [putL, setL, evL, getL]
  rcases Bool.eq_false_or_eq_true u4 with hb5 | hb5
  · replace H := iteT hb5 H
    refine HL_want ?_ ?_
    · exact wantT (j := 3) (b := true) (t := 6) (c := u4) rfl rfl rfl rfl hb5
    refine o_faddr' (ft := 3) (off := 1) rfl Try.underlying27 rfl tI3 (by decide) ?_
    try dsimp only [putL, setL, evL, getL]
    refine HL_want ?_ ?_
    · exact wantT (j := 3) (b := true) (t := 6) (c := u4) rfl rfl rfl rfl hb5
    refine o_load' rfl Try.underlying3 rfl (hH.hasv 0 rfl rfl) ?_
    try dsimp only [putL, setL, evL, getL]
    obtain ⟨u6, hu6, H⟩ := headE H
    refine HL_want ?_ ?_
    · exact wantT (j := 3) (b := true) (t := 6) (c := u4) rfl rfl rfl rfl hb5
    refine o_call (args := #[.int .i64 p0_1, .int .i64 1, .int .i64 8]) Try.func34 rfl rfl rfl (impl_inRange.ok sb s4 no p0_1 1 8 (Hp.own hH.bs) _ hu6) ?_
    rintro _ s6 ⟨rfl, hD⟩
    replace hH := hH.back0 hD (Up.refl _ _ _)
    clear hD
    dsimp only [addC, setC, rmC, selC, getC] at hH
    try dsimp only [putL, setL, evL, getL]
    refine HL_cons rfl ?_
    refine o_pickT rfl hb5 ?_
    try dsimp only [putL, setL, evL, getL]
    refine HL_cons rfl ?_
    refine o_move ?_
    try dsimp only [putL, setL, evL, getL]
    rcases Bool.eq_false_or_eq_true u6 with hb7 | hb7
    · replace H := iteT hb7 H
      refine HL_want ?_ ?_
      · exact wantT (j := 8) (b := true) (t := 11) (c := u6) rfl rfl rfl rfl hb7
      refine o_faddr' (ft := 22) (off := 2) rfl Try.underlying27 rfl tI22 (by decide) ?_
      try dsimp only [putL, setL, evL, getL]
      refine HL_want ?_ ?_
      · exact wantT (j := 8) (b := true) (t := 11) (c := u6) rfl rfl rfl rfl hb7
      refine o_load' rfl Try.underlying22 rfl (hH.hasv 0 rfl rfl) ?_
      try dsimp only [putL, setL, evL, getL]
      refine HL_want ?_ ?_
      · exact wantT (j := 8) (b := true) (t := 11) (c := u6) rfl rfl rfl rfl hb7
      refine o_len rfl Try.underlying22 ?_
      try dsimp only [putL, setL, evL, getL]
      refine HL_want ?_ ?_
      · exact wantT (j := 8) (b := true) (t := 11) (c := u6) rfl rfl rfl rfl hb7
      refine o_faddr' (ft := 3) (off := 0) rfl Try.underlying27 rfl tI3 (by decide) ?_
      try dsimp only [putL, setL, evL, getL]
      refine HL_want ?_ ?_
      · exact wantT (j := 8) (b := true) (t := 11) (c := u6) rfl rfl rfl rfl hb7
      refine o_load' rfl Try.underlying3 rfl (hH.hasv 0 rfl rfl) ?_
      try dsimp only [putL, setL, evL, getL]
      refine HL_want ?_ ?_
      · exact wantT (j := 8) (b := true) (t := 11) (c := u6) rfl rfl rfl rfl hb7
      refine o_faddr' (ft := 3) (off := 1) rfl Try.underlying27 rfl tI3 (by decide) ?_
      try dsimp only [putL, setL, evL, getL]
      refine HL_want ?_ ?_
      · exact wantT (j := 8) (b := true) (t := 11) (c := u6) rfl rfl rfl rfl hb7
      refine o_load' rfl Try.underlying3 rfl (hH.hasv 0 rfl rfl) ?_
      try dsimp only [putL, setL, evL, getL]
      refine HL_want ?_ ?_
      · exact wantT (j := 8) (b := true) (t := 11) (c := u6) rfl rfl rfl rfl hb7
      refine o_bin rfl rfl rfl ?_
      try dsimp only [putL, setL, evL, getL]
      refine HL_want ?_ ?_
      · exact wantT (j := 8) (b := true) (t := 11) (c := u6) rfl rfl rfl rfl hb7
      refine o_bin rfl rfl rfl ?_
      try dsimp only [putL, setL, evL, getL]
      refine HL_cons rfl ?_
      refine o_pickT rfl hb7 ?_
      try dsimp only [putL, setL, evL, getL]
      refine HL_cons rfl ?_
      refine o_move ?_
      try dsimp only [putL, setL, evL, getL]
      rcases Bool.eq_false_or_eq_true ((p0_2.length : Int) == (IntKind.i64.wrap (p0_0 * p0_1))) with hb8 | hb8
      · replace H := iteT hb8 H
        refine HL_want ?_ ?_
        · exact wantT (j := 19) (b := true) (t := 22) (c := (p0_2.length : Int) == (IntKind.i64.wrap (p0_0 * p0_1))) rfl rfl rfl rfl hb8
        refine o_faddr' (ft := 3) (off := 3) rfl Try.underlying27 rfl tI3 (by decide) ?_
        try dsimp only [putL, setL, evL, getL]
        refine HL_want ?_ ?_
        · exact wantT (j := 19) (b := true) (t := 22) (c := (p0_2.length : Int) == (IntKind.i64.wrap (p0_0 * p0_1))) rfl rfl rfl rfl hb8
        refine o_load' rfl Try.underlying3 rfl (hH.hasv 0 rfl rfl) ?_
        try dsimp only [putL, setL, evL, getL]
        refine HL_want ?_ ?_
        · exact wantT (j := 19) (b := true) (t := 22) (c := (p0_2.length : Int) == (IntKind.i64.wrap (p0_0 * p0_1))) rfl rfl rfl rfl hb8
        refine o_faddr' (ft := 3) (off := 0) rfl Try.underlying27 rfl tI3 (by decide) ?_
        try dsimp only [putL, setL, evL, getL]
        refine HL_want ?_ ?_
        · exact wantT (j := 19) (b := true) (t := 22) (c := (p0_2.length : Int) == (IntKind.i64.wrap (p0_0 * p0_1))) rfl rfl rfl rfl hb8
        refine o_load' rfl Try.underlying3 rfl (hH.hasv 0 rfl rfl) ?_
        try dsimp only [putL, setL, evL, getL]
        obtain ⟨u9, hu9, H⟩ := headE H
        refine HL_want ?_ ?_
        · exact wantT (j := 19) (b := true) (t := 22) (c := (p0_2.length : Int) == (IntKind.i64.wrap (p0_0 * p0_1))) rfl rfl rfl rfl hb8
        refine o_call (args := #[.int .i64 p0_3, .int .i64 0, .int .i64 p0_0]) Try.func34 rfl rfl rfl (impl_inRange.ok sb s6 no p0_3 0 p0_0 (Hp.own hH.bs) _ hu9) ?_
        rintro _ s9 ⟨rfl, hD⟩
        replace hH := hH.back0 hD (Up.refl _ _ _)
        clear hD
        dsimp only [addC, setC, rmC, selC, getC] at hH
        try dsimp only [putL, setL, evL, getL]
        refine HL_cons rfl ?_
        refine o_pickT rfl hb8 ?_
        try dsimp only [putL, setL, evL, getL]
        refine HL_cons rfl ?_
        refine o_move ?_
        try dsimp only [putL, setL, evL, getL]
        rcases Bool.eq_false_or_eq_true u9 with hb10 | hb10
        · replace H := iteT hb10 H
          refine HL_want ?_ ?_
          · exact wantT (j := 26) (b := true) (t := 29) (c := u9) rfl rfl rfl rfl hb10
          refine o_faddr' (ft := 3) (off := 4) rfl Try.underlying27 rfl tI3 (by decide) ?_
          try dsimp only [putL, setL, evL, getL]
          refine HL_want ?_ ?_
          · exact wantT (j := 26) (b := true) (t := 29) (c := u9) rfl rfl rfl rfl hb10
          refine o_load' rfl Try.underlying3 rfl (hH.hasv 0 rfl rfl) ?_
          try dsimp only [putL, setL, evL, getL]
          refine HL_want ?_ ?_
          · exact wantT (j := 26) (b := true) (t := 29) (c := u9) rfl rfl rfl rfl hb10
          refine o_faddr' (ft := 3) (off := 1) rfl Try.underlying27 rfl tI3 (by decide) ?_
          try dsimp only [putL, setL, evL, getL]
          refine HL_want ?_ ?_
          · exact wantT (j := 26) (b := true) (t := 29) (c := u9) rfl rfl rfl rfl hb10
          refine o_load' rfl Try.underlying3 rfl (hH.hasv 0 rfl rfl) ?_
          try dsimp only [putL, setL, evL, getL]
          obtain ⟨u11, hu11, H⟩ := headE H
          refine HL_want ?_ ?_
          · exact wantT (j := 26) (b := true) (t := 29) (c := u9) rfl rfl rfl rfl hb10
          refine o_call (args := #[.int .i64 p0_4, .int .i64 p0_1]) Try.func35 rfl rfl rfl (impl_isPlace.ok sb s9 no p0_4 p0_1 (Hp.own hH.bs) _ hu11) ?_
          rintro _ s11 ⟨rfl, hD⟩
          replace hH := hH.back0 hD (Up.refl _ _ _)
          clear hD
          dsimp only [addC, setC, rmC, selC, getC] at hH
          try dsimp only [putL, setL, evL, getL]
          refine HL_cons rfl ?_
          refine o_pickT rfl hb10 ?_
          try dsimp only [putL, setL, evL, getL]
          refine HL_cons rfl ?_
          refine o_move ?_
          try dsimp only [putL, setL, evL, getL]
          rcases Bool.eq_false_or_eq_true u11 with hb12 | hb12
          · replace H := iteT hb12 H
            refine HL_want ?_ ?_
            · exact wantT (j := 33) (b := true) (t := 36) (c := u11) rfl rfl rfl rfl hb12
            refine o_faddr' (ft := 22) (off := 2) rfl Try.underlying27 rfl tI22 (by decide) ?_
            try dsimp only [putL, setL, evL, getL]
            refine HL_want ?_ ?_
            · exact wantT (j := 33) (b := true) (t := 36) (c := u11) rfl rfl rfl rfl hb12
            refine o_load' rfl Try.underlying22 rfl (hH.hasv 0 rfl rfl) ?_
            try dsimp only [putL, setL, evL, getL]
            obtain ⟨u13, hu13, H⟩ := headE H
            refine HL_want ?_ ?_
            · exact wantT (j := 33) (b := true) (t := 36) (c := u11) rfl rfl rfl rfl hb12
            refine o_call (args := #[.slice A0_2p p0_2.length c0_2p, .func (.func 37) #[] #[]]) Try.func36 rfl rfl rfl (slices_ContainsFunc_int_int_impl_GoodScreen_1.ok sb s11 no A0_2p c0_2p p0_2 HRp0_2 (Hp.own hH.bs) _ hu13) ?_
            rintro _ s13 ⟨rfl, hD⟩
            replace hH := hH.back0 hD (Up.refl _ _ _)
            clear hD
            dsimp only [addC, setC, rmC, selC, getC] at hH
            try dsimp only [putL, setL, evL, getL]
            refine HL_want ?_ ?_
            · exact wantT (j := 33) (b := true) (t := 36) (c := u11) rfl rfl rfl rfl hb12
            refine o_not rfl ?_
            try dsimp only [putL, setL, evL, getL]
            refine HL_cons rfl ?_
            refine o_pickT rfl hb12 ?_
            try dsimp only [putL, setL, evL, getL]
            refine HL_cons rfl ?_
            refine o_assign ?_
            try dsimp only [putL, setL, evL, getL]
            refine HL_nil ?_
            refine hK3 _ _ ?_
            refine HT_ret ?_
            obtain rfl := Option.some.inj (show some _ = some r from H)
            exact hQr _ _ [.bool (!u13)] ⟨rfl, trivial⟩ ⟨rfl, hH.sel [] (by decide)⟩
          · replace H := iteF hb12 H
            refine HL_skip ?_ ?_
            · exact wantF (j := 33) (b := true) (t := 36) (c := u11) rfl rfl rfl rfl hb12
            try dsimp only [putL, setL, evL, getL]
            refine HL_skip ?_ ?_
            · exact wantF (j := 33) (b := true) (t := 36) (c := u11) rfl rfl rfl rfl hb12
            try dsimp only [putL, setL, evL, getL]
            refine HL_skip ?_ ?_
            · exact wantF (j := 33) (b := true) (t := 36) (c := u11) rfl rfl rfl rfl hb12
            try dsimp only [putL, setL, evL, getL]
            refine HL_skip ?_ ?_
            · exact wantF (j := 33) (b := true) (t := 36) (c := u11) rfl rfl rfl rfl hb12
            try dsimp only [putL, setL, evL, getL]
            refine HL_cons rfl ?_
            refine o_pickF rfl hb12 ?_
            try dsimp only [putL, setL, evL, getL]
            refine HL_cons rfl ?_
            refine o_assign ?_
            try dsimp only [putL, setL, evL, getL]
            refine HL_nil ?_
            refine hK3 _ _ ?_
            refine HT_ret ?_
            obtain rfl := Option.some.inj (show some _ = some r from H)
            exact hQr _ _ [.bool false] ⟨rfl, trivial⟩ ⟨rfl, hH.sel [] (by decide)⟩
        · replace H := iteF hb10 H
          refine HL_skip ?_ ?_
          · exact wantF (j := 26) (b := true) (t := 29) (c := u9) rfl rfl rfl rfl hb10
          try dsimp only [putL, setL, evL, getL]
          refine HL_skip ?_ ?_
          · exact wantF (j := 26) (b := true) (t := 29) (c := u9) rfl rfl rfl rfl hb10
          try dsimp only [putL, setL, evL, getL]
          refine HL_skip ?_ ?_
          · exact wantF (j := 26) (b := true) (t := 29) (c := u9) rfl rfl rfl rfl hb10
          try dsimp only [putL, setL, evL, getL]
          refine HL_skip ?_ ?_
          · exact wantF (j := 26) (b := true) (t := 29) (c := u9) rfl rfl rfl rfl hb10
          try dsimp only [putL, setL, evL, getL]
          refine HL_skip ?_ ?_
          · exact wantF (j := 26) (b := true) (t := 29) (c := u9) rfl rfl rfl rfl hb10
          try dsimp only [putL, setL, evL, getL]
          refine HL_cons rfl ?_
          refine o_pickF rfl hb10 ?_
          try dsimp only [putL, setL, evL, getL]
          refine HL_cons rfl ?_
          refine o_move ?_
          try dsimp only [putL, setL, evL, getL]
          refine HL_skip ?_ ?_
          · exact wantF (j := 33) (b := true) (t := 36) (c := false) rfl rfl rfl rfl rfl
          try dsimp only [putL, setL, evL, getL]
          refine HL_skip ?_ ?_
          · exact wantF (j := 33) (b := true) (t := 36) (c := false) rfl rfl rfl rfl rfl
          try dsimp only [putL, setL, evL, getL]
          refine HL_skip ?_ ?_
          · exact wantF (j := 33) (b := true) (t := 36) (c := false) rfl rfl rfl rfl rfl
          try dsimp only [putL, setL, evL, getL]
          refine HL_skip ?_ ?_
          · exact wantF (j := 33) (b := true) (t := 36) (c := false) rfl rfl rfl rfl rfl
          try dsimp only [putL, setL, evL, getL]
          refine HL_cons rfl ?_
          refine o_pickF rfl rfl ?_
          try dsimp only [putL, setL, evL, getL]
          refine HL_cons rfl ?_
          refine o_assign ?_
          try dsimp only [putL, setL, evL, getL]
          refine HL_nil ?_
          refine hK3 _ _ ?_
          refine HT_ret ?_
          obtain rfl := Option.some.inj (show some _ = some r from H)
          exact hQr _ _ [.bool false] ⟨rfl, trivial⟩ ⟨rfl, hH.sel [] (by decide)⟩
      · replace H := iteF hb8 H
        refine HL_skip ?_ ?_
        · exact wantF (j := 19) (b := true) (t := 22) (c := (p0_2.length : Int) == (IntKind.i64.wrap (p0_0 * p0_1))) rfl rfl rfl rfl hb8
        try dsimp only [putL, setL, evL, getL]
        refine HL_skip ?_ ?_
        · exact wantF (j := 19) (b := true) (t := 22) (c := (p0_2.length : Int) == (IntKind.i64.wrap (p0_0 * p0_1))) rfl rfl rfl rfl hb8
        try dsimp only [putL, setL, evL, getL]
        refine HL_skip ?_ ?_
        · exact wantF (j := 19) (b := true) (t := 22) (c := (p0_2.length : Int) == (IntKind.i64.wrap (p0_0 * p0_1))) rfl rfl rfl rfl hb8
        try dsimp only [putL, setL, evL, getL]
        refine HL_skip ?_ ?_
        · exact wantF (j := 19) (b := true) (t := 22) (c := (p0_2.length : Int) == (IntKind.i64.wrap (p0_0 * p0_1))) rfl rfl rfl rfl hb8
        try dsimp only [putL, setL, evL, getL]
        refine HL_skip ?_ ?_
        · exact wantF (j := 19) (b := true) (t := 22) (c := (p0_2.length : Int) == (IntKind.i64.wrap (p0_0 * p0_1))) rfl rfl rfl rfl hb8
        try dsimp only [putL, setL, evL, getL]
        refine HL_cons rfl ?_
        refine o_pickF rfl hb8 ?_
        try dsimp only [putL, setL, evL, getL]
        refine HL_cons rfl ?_
        refine o_move ?_
        try dsimp only [putL, setL, evL, getL]
        refine HL_skip ?_ ?_
        · exact wantF (j := 26) (b := true) (t := 29) (c := false) rfl rfl rfl rfl rfl
        try dsimp only [putL, setL, evL, getL]
        refine HL_skip ?_ ?_
        · exact wantF (j := 26) (b := true) (t := 29) (c := false) rfl rfl rfl rfl rfl
        try dsimp only [putL, setL, evL, getL]
        refine HL_skip ?_ ?_
        · exact wantF (j := 26) (b := true) (t := 29) (c := false) rfl rfl rfl rfl rfl
        try dsimp only [putL, setL, evL, getL]
        refine HL_skip ?_ ?_
        · exact wantF (j := 26) (b := true) (t := 29) (c := false) rfl rfl rfl rfl rfl
        try dsimp only [putL, setL, evL, getL]
        refine HL_skip ?_ ?_
        · exact wantF (j := 26) (b := true) (t := 29) (c := false) rfl rfl rfl rfl rfl
        try dsimp only [putL, setL, evL, getL]
        refine HL_cons rfl ?_
        refine o_pickF rfl rfl ?_
        try dsimp only [putL, setL, evL, getL]
        refine HL_cons rfl ?_
        refine o_move ?_
        try dsimp only [putL, setL, evL, getL]
        refine HL_skip ?_ ?_
        · exact wantF (j := 33) (b := true) (t := 36) (c := false) rfl rfl rfl rfl rfl
        try dsimp only [putL, setL, evL, getL]
        refine HL_skip ?_ ?_
        · exact wantF (j := 33) (b := true) (t := 36) (c := false) rfl rfl rfl rfl rfl
        try dsimp only [putL, setL, evL, getL]
        refine HL_skip ?_ ?_
        · exact wantF (j := 33) (b := true) (t := 36) (c := false) rfl rfl rfl rfl rfl
        try dsimp only [putL, setL, evL, getL]
        refine HL_skip ?_ ?_
        · exact wantF (j := 33) (b := true) (t := 36) (c := false) rfl rfl rfl rfl rfl
        try dsimp only [putL, setL, evL, getL]
        refine HL_cons rfl ?_
        refine o_pickF rfl rfl ?_
        try dsimp only [putL, setL, evL, getL]
        refine HL_cons rfl ?_
        refine o_assign ?_
        try dsimp only [putL, setL, evL, getL]
        refine HL_nil ?_
        refine hK3 _ _ ?_
        refine HT_ret ?_
        obtain rfl := Option.some.inj (show some _ = some r from H)
        exact hQr _ _ [.bool false] ⟨rfl, trivial⟩ ⟨rfl, hH.sel [] (by decide)⟩
    · replace H := iteF hb7 H
      refine HL_skip ?_ ?_
      · exact wantF (j := 8) (b := true) (t := 11) (c := u6) rfl rfl rfl rfl hb7
      try dsimp only [putL, setL, evL, getL]
      refine HL_skip ?_ ?_
      · exact wantF (j := 8) (b := true) (t := 11) (c := u6) rfl rfl rfl rfl hb7
      try dsimp only [putL, setL, evL, getL]
      refine HL_skip ?_ ?_
      · exact wantF (j := 8) (b := true) (t := 11) (c := u6) rfl rfl rfl rfl hb7
      try dsimp only [putL, setL, evL, getL]
      refine HL_skip ?_ ?_
      · exact wantF (j := 8) (b := true) (t := 11) (c := u6) rfl rfl rfl rfl hb7
      try dsimp only [putL, setL, evL, getL]
      refine HL_skip ?_ ?_
      · exact wantF (j := 8) (b := true) (t := 11) (c := u6) rfl rfl rfl rfl hb7
      try dsimp only [putL, setL, evL, getL]
      refine HL_skip ?_ ?_
      · exact wantF (j := 8) (b := true) (t := 11) (c := u6) rfl rfl rfl rfl hb7
      try dsimp only [putL, setL, evL, getL]
      refine HL_skip ?_ ?_
      · exact wantF (j := 8) (b := true) (t := 11) (c := u6) rfl rfl rfl rfl hb7
      try dsimp only [putL, setL, evL, getL]
      refine HL_skip ?_ ?_
      · exact wantF (j := 8) (b := true) (t := 11) (c := u6) rfl rfl rfl rfl hb7
      try dsimp only [putL, setL, evL, getL]
      refine HL_skip ?_ ?_
      · exact wantF (j := 8) (b := true) (t := 11) (c := u6) rfl rfl rfl rfl hb7
      try dsimp only [putL, setL, evL, getL]
      refine HL_cons rfl ?_
      refine o_pickF rfl hb7 ?_
      try dsimp only [putL, setL, evL, getL]
      refine HL_cons rfl ?_
      refine o_move ?_
      try dsimp only [putL, setL, evL, getL]
      refine HL_skip ?_ ?_
      · exact wantF (j := 19) (b := true) (t := 22) (c := false) rfl rfl rfl rfl rfl
      try dsimp only [putL, setL, evL, getL]
      refine HL_skip ?_ ?_
      · exact wantF (j := 19) (b := true) (t := 22) (c := false) rfl rfl rfl rfl rfl
      try dsimp only [putL, setL, evL, getL]
      refine HL_skip ?_ ?_
      · exact wantF (j := 19) (b := true) (t := 22) (c := false) rfl rfl rfl rfl rfl
      try dsimp only [putL, setL, evL, getL]
      refine HL_skip ?_ ?_
      · exact wantF (j := 19) (b := true) (t := 22) (c := false) rfl rfl rfl rfl rfl
      try dsimp only [putL, setL, evL, getL]
      refine HL_skip ?_ ?_
      · exact wantF (j := 19) (b := true) (t := 22) (c := false) rfl rfl rfl rfl rfl
      try dsimp only [putL, setL, evL, getL]
      refine HL_cons rfl ?_
      refine o_pickF rfl rfl ?_
      try dsimp only [putL, setL, evL, getL]
      refine HL_cons rfl ?_
      refine o_move ?_
      try dsimp only [putL, setL, evL, getL]
      refine HL_skip ?_ ?_
      · exact wantF (j := 26) (b := true) (t := 29) (c := false) rfl rfl rfl rfl rfl
      try dsimp only [putL, setL, evL, getL]
      refine HL_skip ?_ ?_
      · exact wantF (j := 26) (b := true) (t := 29) (c := false) rfl rfl rfl rfl rfl
      try dsimp only [putL, setL, evL, getL]
      refine HL_skip ?_ ?_
      · exact wantF (j := 26) (b := true) (t := 29) (c := false) rfl rfl rfl rfl rfl
      try dsimp only [putL, setL, evL, getL]
      refine HL_skip ?_ ?_
      · exact wantF (j := 26) (b := true) (t := 29) (c := false) rfl rfl rfl rfl rfl
      try dsimp only [putL, setL, evL, getL]
      refine HL_skip ?_ ?_
      · exact wantF (j := 26) (b := true) (t := 29) (c := false) rfl rfl rfl rfl rfl
      try dsimp only [putL, setL, evL, getL]
      refine HL_cons rfl ?_
      refine o_pickF rfl rfl ?_
      try dsimp only [putL, setL, evL, getL]
      refine HL_cons rfl ?_
      refine o_move ?_
      try dsimp only [putL, setL, evL, getL]
      refine HL_skip ?_ ?_
      · exact wantF (j := 33) (b := true) (t := 36) (c := false) rfl rfl rfl rfl rfl
      try dsimp only [putL, setL, evL, getL]
      refine HL_skip ?_ ?_
      · exact wantF (j := 33) (b := true) (t := 36) (c := false) rfl rfl rfl rfl rfl
      try dsimp only [putL, setL, evL, getL]
      refine HL_skip ?_ ?_
      · exact wantF (j := 33) (b := true) (t := 36) (c := false) rfl rfl rfl rfl rfl
      try dsimp only [putL, setL, evL, getL]
      refine HL_skip ?_ ?_
      · exact wantF (j := 33) (b := true) (t := 36) (c := false) rfl rfl rfl rfl rfl
      try dsimp only [putL, setL, evL, getL]
      refine HL_cons rfl ?_
      refine o_pickF rfl rfl ?_
      try dsimp only [putL, setL, evL, getL]
      refine HL_cons rfl ?_
      refine o_assign ?_
      try dsimp only [putL, setL, evL, getL]
      refine HL_nil ?_
      refine hK3 _ _ ?_
      refine HT_ret ?_
      obtain rfl := Option.some.inj (show some _ = some r from H)
      exact hQr _ _ [.bool false] ⟨rfl, trivial⟩ ⟨rfl, hH.sel [] (by decide)⟩
  · replace H := iteF hb5 H
    refine HL_skip ?_ ?_
    · exact wantF (j := 3) (b := true) (t := 6) (c := u4) rfl rfl rfl rfl hb5
    try dsimp only [putL, setL, evL, getL]
    refine HL_skip ?_ ?_
    · exact wantF (j := 3) (b := true) (t := 6) (c := u4) rfl rfl rfl rfl hb5
    try dsimp only [putL, setL, evL, getL]
    refine HL_skip ?_ ?_
    · exact wantF (j := 3) (b := true) (t := 6) (c := u4) rfl rfl rfl rfl hb5
    try dsimp only [putL, setL, evL, getL]
    refine HL_cons rfl ?_
    refine o_pickF rfl hb5 ?_
    try dsimp only [putL, setL, evL, getL]
    refine HL_cons rfl ?_
    refine o_move ?_
    try dsimp only [putL, setL, evL, getL]
    refine HL_skip ?_ ?_
    · exact wantF (j := 8) (b := true) (t := 11) (c := false) rfl rfl rfl rfl rfl
    try dsimp only [putL, setL, evL, getL]
    refine HL_skip ?_ ?_
    · exact wantF (j := 8) (b := true) (t := 11) (c := false) rfl rfl rfl rfl rfl
    try dsimp only [putL, setL, evL, getL]
    refine HL_skip ?_ ?_
    · exact wantF (j := 8) (b := true) (t := 11) (c := false) rfl rfl rfl rfl rfl
    try dsimp only [putL, setL, evL, getL]
    refine HL_skip ?_ ?_
    · exact wantF (j := 8) (b := true) (t := 11) (c := false) rfl rfl rfl rfl rfl
    try dsimp only [putL, setL, evL, getL]
    refine HL_skip ?_ ?_
    · exact wantF (j := 8) (b := true) (t := 11) (c := false) rfl rfl rfl rfl rfl
    try dsimp only [putL, setL, evL, getL]
    refine HL_skip ?_ ?_
    · exact wantF (j := 8) (b := true) (t := 11) (c := false) rfl rfl rfl rfl rfl
    try dsimp only [putL, setL, evL, getL]
    refine HL_skip ?_ ?_
    · exact wantF (j := 8) (b := true) (t := 11) (c := false) rfl rfl rfl rfl rfl
    try dsimp only [putL, setL, evL, getL]
    refine HL_skip ?_ ?_
    · exact wantF (j := 8) (b := true) (t := 11) (c := false) rfl rfl rfl rfl rfl
    try dsimp only [putL, setL, evL, getL]
    refine HL_skip ?_ ?_
    · exact wantF (j := 8) (b := true) (t := 11) (c := false) rfl rfl rfl rfl rfl
    try dsimp only [putL, setL, evL, getL]
    refine HL_cons rfl ?_
    refine o_pickF rfl rfl ?_
    try dsimp only [putL, setL, evL, getL]
    refine HL_cons rfl ?_
    refine o_move ?_
    try dsimp only [putL, setL, evL, getL]
    refine HL_skip ?_ ?_
    · exact wantF (j := 19) (b := true) (t := 22) (c := false) rfl rfl rfl rfl rfl
    try dsimp only [putL, setL, evL, getL]
    refine HL_skip ?_ ?_
    · exact wantF (j := 19) (b := true) (t := 22) (c := false) rfl rfl rfl rfl rfl
    try dsimp only [putL, setL, evL, getL]
    refine HL_skip ?_ ?_
    · exact wantF (j := 19) (b := true) (t := 22) (c := false) rfl rfl rfl rfl rfl
    try dsimp only [putL, setL, evL, getL]
    refine HL_skip ?_ ?_
    · exact wantF (j := 19) (b := true) (t := 22) (c := false) rfl rfl rfl rfl rfl
    try dsimp only [putL, setL, evL, getL]
    refine HL_skip ?_ ?_
    · exact wantF (j := 19) (b := true) (t := 22) (c := false) rfl rfl rfl rfl rfl
    try dsimp only [putL, setL, evL, getL]
    refine HL_cons rfl ?_
    refine o_pickF rfl rfl ?_
    try dsimp only [putL, setL, evL, getL]
    refine HL_cons rfl ?_
    refine o_move ?_
    try dsimp only [putL, setL, evL, getL]
    refine HL_skip ?_ ?_
    · exact wantF (j := 26) (b := true) (t := 29) (c := false) rfl rfl rfl rfl rfl
    try dsimp only [putL, setL, evL, getL]
    refine HL_skip ?_ ?_
    · exact wantF (j := 26) (b := true) (t := 29) (c := false) rfl rfl rfl rfl rfl
    try dsimp only [putL, setL, evL, getL]
    refine HL_skip ?_ ?_
    · exact wantF (j := 26) (b := true) (t := 29) (c := false) rfl rfl rfl rfl rfl
    try dsimp only [putL, setL, evL, getL]
    refine HL_skip ?_ ?_
    · exact wantF (j := 26) (b := true) (t := 29) (c := false) rfl rfl rfl rfl rfl
    try dsimp only [putL, setL, evL, getL]
    refine HL_skip ?_ ?_
    · exact wantF (j := 26) (b := true) (t := 29) (c := false) rfl rfl rfl rfl rfl
    try dsimp only [putL, setL, evL, getL]
    refine HL_cons rfl ?_
    refine o_pickF rfl rfl ?_
    try dsimp only [putL, setL, evL, getL]
    refine HL_cons rfl ?_
    refine o_move ?_
    try dsimp only [putL, setL, evL, getL]
    refine HL_skip ?_ ?_
    · exact wantF (j := 33) (b := true) (t := 36) (c := false) rfl rfl rfl rfl rfl
    try dsimp only [putL, setL, evL, getL]
    refine HL_skip ?_ ?_
    · exact wantF (j := 33) (b := true) (t := 36) (c := false) rfl rfl rfl rfl rfl
    try dsimp only [putL, setL, evL, getL]
    refine HL_skip ?_ ?_
    · exact wantF (j := 33) (b := true) (t := 36) (c := false) rfl rfl rfl rfl rfl
    try dsimp only [putL, setL, evL, getL]
    refine HL_skip ?_ ?_
    · exact wantF (j := 33) (b := true) (t := 36) (c := false) rfl rfl rfl rfl rfl
    try dsimp only [putL, setL, evL, getL]
    refine HL_cons rfl ?_
    refine o_pickF rfl rfl ?_
    try dsimp only [putL, setL, evL, getL]
    refine HL_cons rfl ?_
    refine o_assign ?_
    try dsimp only [putL, setL, evL, getL]
    refine HL_nil ?_
    refine hK3 _ _ ?_
    refine HT_ret ?_
    obtain rfl := Option.some.inj (show some _ = some r from H)
    exact hQr _ _ [.bool false] ⟨rfl, trivial⟩ ⟨rfl, hH.sel [] (by decide)⟩
def impl_Screen_row.f (p0_0 : Int) (p0_1 : Int) (p0_2 : List (Int)) (p0_3 : Int) (p0_4 : Int) (p1 : Int) : Option (List (Int)) := (cut? p0_2 (IntKind.i64.wrap (p1 * p0_0)) (IntKind.i64.wrap ((IntKind.i64.wrap (p1 + 1)) * p0_0))).bind fun x4 => some x4
def impl_Screen_row.post (sb s : St) (F0 : Fp) (r : (List (Int))) : Value → St → Prop := fun v s' => ∃ (A0 : Option Addr) (c0 : Nat), v = .slice A0 r.length c0 ∧ Hp sb s F0 s' [] ∧ Rd KI sb A0 c0 r
set_option maxRecDepth 100000 in
set_option maxHeartbeats 4000000 in
theorem impl_Screen_row.ok (sb s : St) (F0 : Fp) (p0_0 : Int) (p0_1 : Int) (A0_2p : Option Addr) (c0_2p : Nat) (p0_2 : List (Int)) (p0_3 : Int) (p0_4 : Int) (p1 : Int) (HRp0_2 : Rd KI sb A0_2p c0_2p p0_2) (hH : Hp sb s F0 s []) (r : (List (Int))) (H : impl_Screen_row.f p0_0 p0_1 p0_2 p0_3 p0_4 p1 = some r) : GCall Try.prog 51 #[.agg #[.int .i64 p0_0, .int .i64 p0_1, .slice A0_2p p0_2.length c0_2p, .int .i64 p0_3, .int .i64 p0_4], .int .i64 p1] s (impl_Screen_row.post sb s F0 r) := by
  refine GCall_ofk [.tmp 4] [.agg #[.int .i64 p0_0, .int .i64 p0_1, .slice A0_2p p0_2.length c0_2p, .int .i64 p0_3, .int .i64 p0_4], .int .i64 p1, undef, undef, undef, undef, undef, undef, undef, undef, undef, undef, undef, undef, undef, undef, undef] Try.func51 rfl rfl rfl ?_
  intro w Q hQr hQn hQp
  replace H := topE H
  unfold impl_Screen_row.f at H
  refine HT_seq_k ?_
  intro K1 hK1
  refine HT_region ?_
  refine HL_cons rfl ?_
  refine o_boxH hH rfl ?_
  intro b2 s2 hH' hG
  replace hH : Hp sb s F0 s2 [Ck.ov b2 [.int .i64 p0_0, .int .i64 p0_1, .slice A0_2p p0_2.length c0_2p, .int .i64 p0_3, .int .i64 p0_4] 27] := hH'
  clear hH' hG
  try dsimp only [putL, setL, evL, getL]
  refine HL_cons rfl ?_
  refine o_assign ?_
  try dsimp only [putL, setL, evL, getL]
  refine HL_nil ?_
  refine hK1 _ _ ?_
  refine HT_seq_k ?_
  intro K3 hK3
  refine HT_region ?_
  refine HL_cons rfl ?_
  refine o_faddr' (ft := 22) (off := 2) rfl Try.underlying27 rfl tI22 (by decide) ?_
  try dsimp only [putL, setL, evL, getL]
  refine HL_cons rfl ?_
  refine o_load' rfl Try.underlying22 rfl (hH.hasv 0 rfl rfl) ?_
  try dsimp only [putL, setL, evL, getL]
  refine HL_cons rfl ?_
  refine o_move ?_
  try dsimp only [putL, setL, evL, getL]
  refine HL_cons rfl ?_
  refine o_faddr' (ft := 3) (off := 0) rfl Try.underlying27 rfl tI3 (by decide) ?_
  try dsimp only [putL, setL, evL, getL]
  refine HL_cons rfl ?_
  refine o_load' rfl Try.underlying3 rfl (hH.hasv 0 rfl rfl) ?_
  try dsimp only [putL, setL, evL, getL]
  refine HL_cons rfl ?_
  refine o_bin rfl rfl rfl ?_
  try dsimp only [putL, setL, evL, getL]
  refine HL_cons rfl ?_
  refine o_move ?_
  try dsimp only [putL, setL, evL, getL]
  refine HL_cons rfl ?_
  refine o_bin rfl rfl rfl ?_
  try dsimp only [putL, setL, evL, getL]
  refine HL_cons rfl ?_
  refine o_faddr' (ft := 3) (off := 0) rfl Try.underlying27 rfl tI3 (by decide) ?_
  try dsimp only [putL, setL, evL, getL]
  refine HL_cons rfl ?_
  refine o_load' rfl Try.underlying3 rfl (hH.hasv 0 rfl rfl) ?_
  try dsimp only [putL, setL, evL, getL]
  refine HL_cons rfl ?_
  refine o_bin rfl rfl rfl ?_
  try dsimp only [putL, setL, evL, getL]
  obtain ⟨x4, hx4, H⟩ := headE H
  refine HL_cons rfl ?_
  refine o_cutA (xs := p0_2) (kl := .i64) (kh := .i64) (L := IntKind.i64.wrap (p1 * p0_0)) (H := IntKind.i64.wrap ((IntKind.i64.wrap (p1 + 1)) * p0_0)) rfl rfl rfl Try.underlying22 tI3 HRp0_2.1 hx4 ?_
  have D4 := HRp0_2.cut hx4
  try dsimp only [putL, setL, evL, getL]
  refine HL_cons rfl ?_
  refine o_assign ?_
  try dsimp only [putL, setL, evL, getL]
  refine HL_nil ?_
  refine hK3 _ _ ?_
  refine HT_ret ?_
  obtain rfl := Option.some.inj (show some _ = some r from H)
  exact hQr _ _ [.slice (cutA A0_2p c0_2p (Int.toNat (IntKind.i64.wrap (p1 * p0_0))) (Kd.sz KI)) x4.length (c0_2p - Int.toNat (IntKind.i64.wrap (p1 * p0_0)))] ⟨rfl, trivial⟩ ⟨(cutA A0_2p c0_2p (Int.toNat (IntKind.i64.wrap (p1 * p0_0))) (Kd.sz KI)), c0_2p - Int.toNat (IntKind.i64.wrap (p1 * p0_0)), rfl, hH.sel [] (by decide), D4⟩
def slices_Clone_int_int.f (p0 : List (Int)) : Option (List (Int)) := app? 17592186044416 [] p0
def slices_Clone_int_int.post (sb s : St) (F0 : Fp) (r : List (Int)) : Value → St → Prop := fun v s' => ∃ (A0 : Option Addr) (c0 : Nat), v = .slice A0 r.length c0 ∧ Hp sb s F0 s' [Ck.ol OI 3 A0 c0 r]
set_option maxRecDepth 100000 in
set_option maxHeartbeats 4000000 in
theorem slices_Clone_int_int.ok (sb s : St) (F0 : Fp) (A0p : Option Addr) (c0p : Nat) (p0 : List (Int)) (HRp0 : Rd KI sb A0p c0p p0) (hH : Hp sb s F0 s []) (r : List (Int)) (H : slices_Clone_int_int.f p0 = some r) : GCall Try.prog 63 #[.slice A0p p0.length c0p] s (slices_Clone_int_int.post sb s F0 r) := by
  refine GCall_ofk [.tmp 2] [.slice A0p p0.length c0p, undef, undef, undef, undef, undef, undef, undef] Try.func63 rfl rfl rfl ?_
  intro w Q hQr hQn hQp
  unfold slices_Clone_int_int.f at H
  refine HT_seq_k ?_
  intro K1 hK1
  refine HT_region ?_
  refine HL_cons rfl ?_
  refine o_assign ?_
  refine HL_nil ?_
  refine hK1 _ _ ?_
  refine HT_seq_k ?_
  intro K2 hK2
  refine HT_seq_k ?_
  intro K3 hK3
  refine HT_region ?_
  refine HL_cons rfl ?_
  refine o_move ?_
  dsimp only [putL, setL, evL, getL]
  refine HL_cons rfl ?_
  refine o_eqN rfl rfl Try.underlying22 ?_
  dsimp only [putL, setL, evL, getL]
  refine HL_nil ?_
  refine hK3 _ _ ?_
  cases A0p with
  | none =>
    have hp : p0 = [] := by
      by_cases h : p0 = []
      · exact h
      · obtain ⟨b, o, hA, _⟩ := HRp0.2.2 h
        cases hA
    subst hp
    obtain ⟨_, rfl⟩ := app?_some H
    refine HT_true rfl ?_
    refine HT_seq_k ?_
    intro K4 hK4
    refine HT_region ?_
    refine HL_cons rfl ?_
    refine o_assign ?_
    dsimp only [putL, setL, evL, getL]
    refine HL_nil ?_
    refine hK4 _ _ ?_
    refine HT_ret ?_
    exact hQr _ _ [.slice none 0 0] ⟨rfl, trivial⟩ ⟨none, 0, rfl, hH.nil (K := KI) OI 3⟩
  | some a =>
    refine HT_false rfl ?_
    refine HT_skip ?_
    refine hK2 _ _ ?_
    refine HT_seq_k ?_
    intro K4 hK4
    refine HT_region ?_
    refine HL_cons rfl ?_
    refine o_lit0H (α := Int) (K := KI) (O := OI) hH Try.underlying22 tI3 ?_
    intro A1 s1 hH hG
    dsimp only [putL, setL, evL, getL]
    refine HL_cons rfl ?_
    refine o_move ?_
    dsimp only [putL, setL, evL, getL]
    refine HL_cons rfl ?_
    refine o_appF (n := 17592186044416) (A := A1) (c := 0) (xs := ([] : List (Int))) (ys := p0) (B := some a) (c2 := c0p) hH 0 rfl rfl rfl rfl Try.underlying22 tI3 rfl (by decide) (by decide) (by decide) (Src.flat (HRp0.mono hH.bs.mono)) H ?_
    intro A2 c2 s2 hH
    dsimp only [putL, setL, evL, getL]
    refine HL_cons rfl ?_
    refine o_assign ?_
    dsimp only [putL, setL, evL, getL]
    refine HL_nil ?_
    refine hK4 _ _ ?_
    refine HT_ret ?_
    exact hQr _ _ [.slice A2 r.length c2] ⟨rfl, trivial⟩ ⟨A2, c2, rfl, hH⟩
def impl_Screen_rowOf.l1 : Nat → (List (Int)) → Option (List (Int))
  | 0, _ => none
  | kf + 1, x89 => (if (decide ((x89.length : Int) > 0)) = true then ((rd? x89 (IntKind.i64.wrap ((x89.length : Int) - 1))).bind fun u126 => some (u126 == 32)) else (some false)).bind fun (o : Bool) => match o with | x124 => (if x124 = true then ((cut? x89 0 (IntKind.i64.wrap ((x89.length : Int) - 1))).bind fun x129 => impl_Screen_rowOf.l1 kf x129) else (some x89))
def impl_Screen_rowOf.f (p0_0 : Int) (p0_1 : Int) (p0_2 : List (Int)) (p0_3 : Int) (p0_4 : Int) (p1 : Int) : Option (List (Int)) := (impl_Screen_row.f p0_0 p0_1 p0_2 p0_3 p0_4 p1).bind fun u4 => (slices_Clone_int_int.f u4).bind fun u6 => (impl_Screen_rowOf.l1 ((((u6.length : Int)) - (0)).toNat + 2) u6).bind fun (o : (List (Int))) => match o with | x69 => ((slices_Clone_int_int.f x69).bind fun u132 => some u132)
def impl_Screen_rowOf.post (sb s : St) (F0 : Fp) (r : (List (Int))) : Value → St → Prop := fun v s' => ∃ (A0 : Option Addr) (c0 : Nat), v = .slice A0 r.length c0 ∧ Hp sb s F0 s' [Ck.ol OI 3 A0 c0 r]
set_option maxRecDepth 100000 in
set_option maxHeartbeats 4000000 in
theorem impl_Screen_rowOf.ok (sb s : St) (F0 : Fp) (p0_0 : Int) (p0_1 : Int) (A0_2p : Option Addr) (c0_2p : Nat) (p0_2 : List (Int)) (p0_3 : Int) (p0_4 : Int) (p1 : Int) (HRp0_2 : Rd KI sb A0_2p c0_2p p0_2) (hH : Hp sb s F0 s []) (r : (List (Int))) (H : impl_Screen_rowOf.f p0_0 p0_1 p0_2 p0_3 p0_4 p1 = some r) : GCall Try.prog 54 #[.agg #[.int .i64 p0_0, .int .i64 p0_1, .slice A0_2p p0_2.length c0_2p, .int .i64 p0_3, .int .i64 p0_4], .int .i64 p1] s (impl_Screen_rowOf.post sb s F0 r) := by
  refine GCall_ofk [.tmp 4] [.agg #[.int .i64 p0_0, .int .i64 p0_1, .slice A0_2p p0_2.length c0_2p, .int .i64 p0_3, .int .i64 p0_4], .int .i64 p1, undef, undef, undef, undef, undef, undef, undef, undef, undef, undef, undef, undef, undef, undef, undef, undef, undef, undef, undef, undef, undef, undef, undef, undef, undef, undef, undef] Try.func54 rfl rfl rfl ?_
  intro w Q hQr hQn hQp
  replace H := topE H
  unfold impl_Screen_rowOf.f at H
  refine HT_seq_k ?_
  intro K1 hK1
  refine HT_region ?_
  refine HL_cons rfl ?_
  refine o_boxH hH rfl ?_
  intro b2 s2 hH' hG
  replace hH : Hp sb s F0 s2 [Ck.ov b2 [.int .i64 p0_0, .int .i64 p0_1, .slice A0_2p p0_2.length c0_2p, .int .i64 p0_3, .int .i64 p0_4] 27] := hH'
  clear hH' hG
  try dsimp only [putL, setL, evL, getL]
  refine HL_cons rfl ?_
  refine o_assign ?_
  try dsimp only [putL, setL, evL, getL]
  refine HL_nil ?_
  refine hK1 _ _ ?_
  refine HT_seq_k ?_
  intro K3 hK3
  refine HT_region ?_
  refine HL_cons rfl ?_
  refine o_loads' [.int .i64 p0_0, .int .i64 p0_1, .slice A0_2p p0_2.length c0_2p, .int .i64 p0_3, .int .i64 p0_4] rfl Try.underlying27 rfl tI27 rfl (hH.partv 0 rfl (0) [.int .i64 p0_0, .int .i64 p0_1, .slice A0_2p p0_2.length c0_2p, .int .i64 p0_3, .int .i64 p0_4] rfl) ?_
  try dsimp only [putL, setL, evL, getL]
  refine HL_cons rfl ?_
  refine o_move ?_
  try dsimp only [putL, setL, evL, getL]
  obtain ⟨u4, hu4, H⟩ := headE H
  refine HL_cons rfl ?_
  refine o_call (args := #[.agg #[.int .i64 p0_0, .int .i64 p0_1, .slice A0_2p p0_2.length c0_2p, .int .i64 p0_3, .int .i64 p0_4], .int .i64 p1]) Try.func51 rfl rfl rfl (impl_Screen_row.ok sb s2 no p0_0 p0_1 A0_2p c0_2p p0_2 p0_3 p0_4 p1 HRp0_2 (Hp.own hH.bs) _ hu4) ?_
  rintro _ s4 ⟨A5, c5, rfl, hD, D5⟩
  replace hH := hH.back0 hD (Up.refl _ _ _)
  clear hD
  dsimp only [addC, setC, rmC, selC, getC] at hH
  try dsimp only [putL, setL, evL, getL]
  obtain ⟨u6, hu6, H⟩ := headE H
  refine HL_cons rfl ?_
  refine o_call (args := #[.slice A5 u4.length c5]) Try.func63 rfl rfl rfl (slices_Clone_int_int.ok sb s4 no A5 c5 u4 D5 (Hp.own hH.bs) _ hu6) ?_
  rintro _ s6 ⟨A7, c7, rfl, hD⟩
  replace hH := hH.back0 hD (Up.refl _ _ _)
  clear hD
  dsimp only [addC, setC, rmC, selC, getC] at hH
  try dsimp only [putL, setL, evL, getL]
  refine HL_cons rfl ?_
  refine o_assign ?_
  try dsimp only [putL, setL, evL, getL]
  refine HL_nil ?_
  refine hK3 _ _ ?_
  refine joinH H fun G8 hG8 H => ?_
  refine HT_joinK (fun l' s' => ∃ (x69 : List (Int)) (A69 : Option Addr) (c69 : Nat), G8 x69 = some r ∧ l' = [.agg #[.int .i64 p0_0, .int .i64 p0_1, .slice A0_2p p0_2.length c0_2p, .int .i64 p0_3, .int .i64 p0_4], .int .i64 p1, .pointer (some ⟨b2, 0, none⟩), undef, .slice none 0 0, .slice A69 x69.length c69, .agg #[.int .i64 p0_0, .int .i64 p0_1, .slice A0_2p p0_2.length c0_2p, .int .i64 p0_3, .int .i64 p0_4], .int .i64 p1, .slice A5 u4.length c5, .slice A7 u6.length c7, getL l' 10, getL l' 11, getL l' 12, getL l' 13, getL l' 14, getL l' 15, getL l' 16, getL l' 17, getL l' 18, getL l' 19, getL l' 20, getL l' 21, getL l' 22, getL l' 23, getL l' 24, getL l' 25, getL l' 26, undef, undef] ∧ Hp sb s F0 s' [Ck.ol OI 3 A69 c69 x69]) ?_ ?_
  · intro K8 hK8
    refine HT_block ?_
    refine HT_loopK (fun kf l' s' => ∃ (x89 : List (Int)) (A89 : Option Addr) (c89 : Nat), (impl_Screen_rowOf.l1 kf x89).bind G8 = some r ∧ l' = [.agg #[.int .i64 p0_0, .int .i64 p0_1, .slice A0_2p p0_2.length c0_2p, .int .i64 p0_3, .int .i64 p0_4], .int .i64 p1, .pointer (some ⟨b2, 0, none⟩), undef, .slice none 0 0, .slice A89 x89.length c89, .agg #[.int .i64 p0_0, .int .i64 p0_1, .slice A0_2p p0_2.length c0_2p, .int .i64 p0_3, .int .i64 p0_4], .int .i64 p1, .slice A5 u4.length c5, .slice A7 u6.length c7, getL l' 10, getL l' 11, getL l' 12, getL l' 13, getL l' 14, getL l' 15, getL l' 16, getL l' 17, getL l' 18, getL l' 19, getL l' 20, getL l' 21, getL l' 22, getL l' 23, getL l' 24, getL l' 25, getL l' 26, undef, undef] ∧ Hp sb s F0 s' [Ck.ol OI 3 A89 c89 x89]) ((((u6.length : Int)) - (0)).toNat + 2) ⟨u6, A7, c7, H, rfl, hH.sel [1] (by decide)⟩ ?_
    rintro kf l' s110 ⟨x89, A89, c89, H, hl, hH⟩ K110 hK110
    generalize getL l' 10 = j10, getL l' 11 = j11, getL l' 12 = j12, getL l' 13 = j13, getL l' 14 = j14, getL l' 15 = j15, getL l' 16 = j16, getL l' 17 = j17, getL l' 18 = j18, getL l' 19 = j19, getL l' 20 = j20, getL l' 21 = j21, getL l' 22 = j22, getL l' 23 = j23, getL l' 24 = j24, getL l' 25 = j25, getL l' 26 = j26 at hl
    subst hl
    cases kf with
    | zero => simp [impl_Screen_rowOf.l1] at H
    | succ kf =>
      rw [impl_Screen_rowOf.l1] at H
      refine HT_seq_k ?_
      intro K120 hK120
      refine joinH H fun G121 hG121 H => ?_
      refine HT_joinK (fun l' s' => ∃ (x124 : Bool), G121 x124 = some r ∧ l' = [.agg #[.int .i64 p0_0, .int .i64 p0_1, .slice A0_2p p0_2.length c0_2p, .int .i64 p0_3, .int .i64 p0_4], .int .i64 p1, .pointer (some ⟨b2, 0, none⟩), undef, .slice none 0 0, .slice A89 x89.length c89, .agg #[.int .i64 p0_0, .int .i64 p0_1, .slice A0_2p p0_2.length c0_2p, .int .i64 p0_3, .int .i64 p0_4], .int .i64 p1, .slice A5 u4.length c5, .slice A7 u6.length c7, getL l' 10, getL l' 11, getL l' 12, getL l' 13, getL l' 14, getL l' 15, getL l' 16, getL l' 17, getL l' 18, getL l' 19, getL l' 20, .bool x124, j22, j23, j24, j25, j26, undef, undef] ∧ Hp sb s F0 s' [Ck.ol OI 3 A89 c89 x89]) ?_ ?_
      · intro K121 hK121
        refine HT_region ?_
        refine HL_cons rfl ?_
        refine o_move ?_
        try dsimp only [putL, setL, evL, getL]
        refine HL_cons rfl ?_
        refine o_len rfl Try.underlying22 ?_
        try dsimp only [putL, setL, evL, getL]
        refine HL_cons rfl ?_
        refine o_bin rfl rfl rfl ?_
        try dsimp only [putL, setL, evL, getL]
        refine HL_cons rfl ?_
        refine o_move ?_
        try dsimp only [putL, setL, evL, getL]
        rcases Bool.eq_false_or_eq_true (decide ((x89.length : Int) > 0)) with hb125 | hb125
        · replace H := iteT hb125 H
          refine HL_want ?_ ?_
          · exact wantT (j := 3) (b := true) (t := 13) (c := decide ((x89.length : Int) > 0)) rfl rfl rfl rfl hb125
          refine o_move ?_
          try dsimp only [putL, setL, evL, getL]
          refine HL_want ?_ ?_
          · exact wantT (j := 3) (b := true) (t := 13) (c := decide ((x89.length : Int) > 0)) rfl rfl rfl rfl hb125
          refine o_move ?_
          try dsimp only [putL, setL, evL, getL]
          refine HL_want ?_ ?_
          · exact wantT (j := 3) (b := true) (t := 13) (c := decide ((x89.length : Int) > 0)) rfl rfl rfl rfl hb125
          refine o_len rfl Try.underlying22 ?_
          try dsimp only [putL, setL, evL, getL]
          refine HL_want ?_ ?_
          · exact wantT (j := 3) (b := true) (t := 13) (c := decide ((x89.length : Int) > 0)) rfl rfl rfl rfl hb125
          refine o_bin rfl rfl rfl ?_
          try dsimp only [putL, setL, evL, getL]
          obtain ⟨u126, hu126, H⟩ := headE H
          obtain ⟨b126, o126, cs126, hA126, hr126, hh126, hel126⟩ := hH.elo 0 rfl hu126
          obtain rfl := hr126
          refine HL_want ?_ ?_
          · exact wantT (j := 3) (b := true) (t := 13) (c := decide ((x89.length : Int) > 0)) rfl rfl rfl rfl hb125
          refine hel126 s110 rfl rfl Try.underlying22 tI3 ?_
          try dsimp only [putL, setL, evL, getL]
          refine HL_want ?_ ?_
          · exact wantT (j := 3) (b := true) (t := 13) (c := decide ((x89.length : Int) > 0)) rfl rfl rfl rfl hb125
          refine o_load' rfl Try.underlying3 rfl (hh126 0 _ rfl) ?_
          try dsimp only [putL, setL, evL, getL]
          refine HL_want ?_ ?_
          · exact wantT (j := 3) (b := true) (t := 13) (c := decide ((x89.length : Int) > 0)) rfl rfl rfl rfl hb125
          refine o_bin rfl rfl rfl ?_
          try dsimp only [putL, setL, evL, getL]
          refine HL_cons rfl ?_
          refine o_pickT rfl hb125 ?_
          try dsimp only [putL, setL, evL, getL]
          refine HL_nil ?_
          exact hK121 _ _ ⟨u126 == 32, H, rfl, hH⟩
        · replace H := iteF hb125 H
          refine HL_skip ?_ ?_
          · exact wantF (j := 3) (b := true) (t := 13) (c := decide ((x89.length : Int) > 0)) rfl rfl rfl rfl hb125
          try dsimp only [putL, setL, evL, getL]
          refine HL_skip ?_ ?_
          · exact wantF (j := 3) (b := true) (t := 13) (c := decide ((x89.length : Int) > 0)) rfl rfl rfl rfl hb125
          try dsimp only [putL, setL, evL, getL]
          refine HL_skip ?_ ?_
          · exact wantF (j := 3) (b := true) (t := 13) (c := decide ((x89.length : Int) > 0)) rfl rfl rfl rfl hb125
          try dsimp only [putL, setL, evL, getL]
          refine HL_skip ?_ ?_
          · exact wantF (j := 3) (b := true) (t := 13) (c := decide ((x89.length : Int) > 0)) rfl rfl rfl rfl hb125
          try dsimp only [putL, setL, evL, getL]
          refine HL_skip ?_ ?_
          · exact wantF (j := 3) (b := true) (t := 13) (c := decide ((x89.length : Int) > 0)) rfl rfl rfl rfl hb125
          try dsimp only [putL, setL, evL, getL]
          refine HL_skip ?_ ?_
          · exact wantF (j := 3) (b := true) (t := 13) (c := decide ((x89.length : Int) > 0)) rfl rfl rfl rfl hb125
          try dsimp only [putL, setL, evL, getL]
          refine HL_skip ?_ ?_
          · exact wantF (j := 3) (b := true) (t := 13) (c := decide ((x89.length : Int) > 0)) rfl rfl rfl rfl hb125
          try dsimp only [putL, setL, evL, getL]
          refine HL_cons rfl ?_
          refine o_pickF rfl hb125 ?_
          try dsimp only [putL, setL, evL, getL]
          refine HL_nil ?_
          exact hK121 _ _ ⟨false, H, rfl, hH⟩
      · rintro l' s127 ⟨x124, H, hl, hH⟩
        generalize getL l' 10 = j10, getL l' 11 = j11, getL l' 12 = j12, getL l' 13 = j13, getL l' 14 = j14, getL l' 15 = j15, getL l' 16 = j16, getL l' 17 = j17, getL l' 18 = j18, getL l' 19 = j19, getL l' 20 = j20 at hl
        subst hl
        replace H := hG121 _ H
        try dsimp only at H
        rcases Bool.eq_false_or_eq_true x124 with hb128 | hb128
        · replace H := iteT hb128 H
          refine HT_true (congrArg Value.bool hb128) ?_
          refine HT_skip ?_
          refine hK120 _ _ ?_
          refine HT_block ?_
          refine HT_region ?_
          refine HL_cons rfl ?_
          refine o_move ?_
          try dsimp only [putL, setL, evL, getL]
          refine HL_cons rfl ?_
          refine o_move ?_
          try dsimp only [putL, setL, evL, getL]
          refine HL_cons rfl ?_
          refine o_len rfl Try.underlying22 ?_
          try dsimp only [putL, setL, evL, getL]
          refine HL_cons rfl ?_
          refine o_bin rfl rfl rfl ?_
          try dsimp only [putL, setL, evL, getL]
          obtain ⟨x129, hx129, H⟩ := headE H
          refine HL_cons rfl ?_
          refine o_cutA (xs := x89) (kl := .i64) (kh := .i64) (L := 0) (H := IntKind.i64.wrap ((x89.length : Int) - 1)) rfl rfl rfl Try.underlying22 tI3 (hH.rd 0 rfl).1 hx129 ?_
          have D129 := @Der.cut _ _ OI 3 A89 c89 _ _ _ _ hx129
          try dsimp only [putL, setL, evL, getL]
          refine HL_cons rfl ?_
          refine o_assign ?_
          try dsimp only [putL, setL, evL, getL]
          refine HL_nil ?_
          exact hK110 _ _ ⟨kf, Nat.lt_succ_self kf, x129, (cutA A89 c89 (Int.toNat 0) (Kd.sz KI)), c89 - Int.toNat 0, H, rfl, (hH.cut 0 rfl rfl hx129)⟩
        · replace H := iteF hb128 H
          refine HT_false (congrArg Value.bool hb128) ?_
          refine HT_exit ?_
          exact hK8 _ _ ⟨x89, A89, c89, H, rfl, hH⟩
  · rintro l' s130 ⟨x69, A69, c69, H, hl, hH⟩
    generalize getL l' 10 = j10, getL l' 11 = j11, getL l' 12 = j12, getL l' 13 = j13, getL l' 14 = j14, getL l' 15 = j15, getL l' 16 = j16, getL l' 17 = j17, getL l' 18 = j18, getL l' 19 = j19, getL l' 20 = j20, getL l' 21 = j21, getL l' 22 = j22, getL l' 23 = j23, getL l' 24 = j24, getL l' 25 = j25, getL l' 26 = j26 at hl
    subst hl
    replace H := hG8 _ H
    try dsimp only at H
    refine HT_seq_k ?_
    intro K131 hK131
    refine HT_region ?_
    refine HL_cons rfl ?_
    refine o_move ?_
    try dsimp only [putL, setL, evL, getL]
    obtain ⟨u132, hu132, H⟩ := headE H
    refine HL_cons rfl ?_
    refine o_call (args := #[.slice A69 x69.length c69]) Try.func63 rfl rfl rfl (slices_Clone_int_int.ok s130 s130 no A69 c69 x69 (hH.rd 0 rfl) (Hp.own (Bs.refl s130)) _ hu132) ?_
    rintro _ s132 ⟨A133, c133, rfl, hD⟩
    replace hH := hH.back0T hD
    clear hD
    dsimp only [addC, setC, rmC, selC, getC] at hH
    try dsimp only [putL, setL, evL, getL]
    refine HL_cons rfl ?_
    refine o_assign ?_
    try dsimp only [putL, setL, evL, getL]
    refine HL_nil ?_
    refine hK131 _ _ ?_
    refine HT_ret ?_
    obtain rfl := Option.some.inj (show some _ = some r from H)
    exact hQr _ _ [.slice A133 u132.length c133] ⟨rfl, trivial⟩ ⟨A133, c133, rfl, hH.sel [1] (by decide)⟩
def impl_RowOf.f (p0_0 : Int) (p0_1 : Int) (p0_2 : List (Int)) (p0_3 : Int) (p0_4 : Int) (p1 : Int) : Option ((List (Int)) × Bool) := ((impl_GoodScreen.f p0_0 p0_1 p0_2 p0_3 p0_4).bind fun u21 => if (!u21) = true then (some true) else ((impl_isPlace.f p1 p0_1).bind fun u23 => some (!u23))).bind fun (o : Bool) => match o with | x20 => (if x20 = true then (some ([], false)) else ((impl_Screen_rowOf.f p0_0 p0_1 p0_2 p0_3 p0_4 p1).bind fun u28 => some (u28, true)))
def impl_RowOf.post (sb s : St) (F0 : Fp) (r : (List (Int)) × Bool) : Value → St → Prop := fun v s' => ∃ (A0 : Option Addr) (c0 : Nat), v = .tuple #[.slice A0 r.1.length c0, .bool r.2] ∧ Hp sb s F0 s' [Ck.ol OI 3 A0 c0 r.1]
set_option maxRecDepth 100000 in
set_option maxHeartbeats 4000000 in
theorem impl_RowOf.ok (sb s : St) (F0 : Fp) (p0_0 : Int) (p0_1 : Int) (A0_2p : Option Addr) (c0_2p : Nat) (p0_2 : List (Int)) (p0_3 : Int) (p0_4 : Int) (p1 : Int) (HRp0_2 : Rd KI sb A0_2p c0_2p p0_2) (hH : Hp sb s F0 s []) (r : (List (Int)) × Bool) (H : impl_RowOf.f p0_0 p0_1 p0_2 p0_3 p0_4 p1 = some r) : GCall Try.prog 29 #[.agg #[.int .i64 p0_0, .int .i64 p0_1, .slice A0_2p p0_2.length c0_2p, .int .i64 p0_3, .int .i64 p0_4], .int .i64 p1] s (impl_RowOf.post sb s F0 r) := by
  refine GCall_ofk [.tmp 4, .tmp 5] [.agg #[.int .i64 p0_0, .int .i64 p0_1, .slice A0_2p p0_2.length c0_2p, .int .i64 p0_3, .int .i64 p0_4], .int .i64 p1, undef, undef, undef, undef, undef, undef, undef, undef, undef, undef, undef, undef, undef, undef, undef, undef, undef] Try.func29 rfl rfl rfl ?_
  intro w Q hQr hQn hQp
  replace H := topE H
  unfold impl_RowOf.f at H
  refine HT_seq_k ?_
  intro K1 hK1
  refine HT_region ?_
  refine HL_cons rfl ?_
  refine o_boxH hH rfl ?_
  intro b2 s2 hH' hG
  replace hH : Hp sb s F0 s2 [Ck.ov b2 [.int .i64 p0_0, .int .i64 p0_1, .slice A0_2p p0_2.length c0_2p, .int .i64 p0_3, .int .i64 p0_4] 27] := hH'
  clear hH' hG
  try dsimp only [putL, setL, evL, getL]
  refine HL_cons rfl ?_
  refine o_assign ?_
  try dsimp only [putL, setL, evL, getL]
  refine HL_cons rfl ?_
  refine o_assign ?_
  try dsimp only [putL, setL, evL, getL]
  refine HL_nil ?_
  refine hK1 _ _ ?_
  refine HT_seq_k ?_
  intro K15 hK15
  refine joinH H fun G16 hG16 H => ?_
  refine HT_joinK (fun l' s' => ∃ (x20 : Bool), G16 x20 = some r ∧ l' = [.agg #[.int .i64 p0_0, .int .i64 p0_1, .slice A0_2p p0_2.length c0_2p, .int .i64 p0_3, .int .i64 p0_4], .int .i64 p1, .pointer (some ⟨b2, 0, none⟩), undef, .slice none 0 0, .bool false, getL l' 6, getL l' 7, getL l' 8, getL l' 9, getL l' 10, getL l' 11, getL l' 12, getL l' 13, getL l' 14, .bool x20, undef, undef, undef] ∧ Hp sb s F0 s' [Ck.ov b2 [.int .i64 p0_0, .int .i64 p0_1, .slice A0_2p p0_2.length c0_2p, .int .i64 p0_3, .int .i64 p0_4] 27]) ?_ ?_
  · intro K16 hK16
    refine HT_region ?_
    refine HL_cons rfl ?_
    refine o_loads' [.int .i64 p0_0, .int .i64 p0_1, .slice A0_2p p0_2.length c0_2p, .int .i64 p0_3, .int .i64 p0_4] rfl Try.underlying27 rfl tI27 rfl (hH.partv 0 rfl (0) [.int .i64 p0_0, .int .i64 p0_1, .slice A0_2p p0_2.length c0_2p, .int .i64 p0_3, .int .i64 p0_4] rfl) ?_
    try dsimp only [putL, setL, evL, getL]
    obtain ⟨u21, hu21, H⟩ := headE H
    refine HL_cons rfl ?_
    refine o_call (args := #[.agg #[.int .i64 p0_0, .int .i64 p0_1, .slice A0_2p p0_2.length c0_2p, .int .i64 p0_3, .int .i64 p0_4]]) Try.func12 rfl rfl rfl (impl_GoodScreen.ok sb s2 no p0_0 p0_1 A0_2p c0_2p p0_2 p0_3 p0_4 HRp0_2 (Hp.own hH.bs) _ hu21) ?_
    rintro _ s21 ⟨rfl, hD⟩
    replace hH := hH.back0 hD (Up.refl _ _ _)
    clear hD
    dsimp only [addC, setC, rmC, selC, getC] at hH
    try dsimp only [putL, setL, evL, getL]
    refine HL_cons rfl ?_
    refine o_not rfl ?_
    try dsimp only [putL, setL, evL, getL]
    refine HL_cons rfl ?_
    refine o_move ?_
    try dsimp only [putL, setL, evL, getL]
    rcases Bool.eq_false_or_eq_true (!u21) with hb22 | hb22
    · replace H := iteT hb22 H
      refine HL_skip ?_ ?_
      · exact wantF (j := 3) (b := false) (t := 9) (c := !u21) rfl rfl rfl rfl hb22
      try dsimp only [putL, setL, evL, getL]
      refine HL_skip ?_ ?_
      · exact wantF (j := 3) (b := false) (t := 9) (c := !u21) rfl rfl rfl rfl hb22
      try dsimp only [putL, setL, evL, getL]
      refine HL_skip ?_ ?_
      · exact wantF (j := 3) (b := false) (t := 9) (c := !u21) rfl rfl rfl rfl hb22
      try dsimp only [putL, setL, evL, getL]
      refine HL_skip ?_ ?_
      · exact wantF (j := 3) (b := false) (t := 9) (c := !u21) rfl rfl rfl rfl hb22
      try dsimp only [putL, setL, evL, getL]
      refine HL_skip ?_ ?_
      · exact wantF (j := 3) (b := false) (t := 9) (c := !u21) rfl rfl rfl rfl hb22
      try dsimp only [putL, setL, evL, getL]
      refine HL_cons rfl ?_
      refine o_pickT rfl hb22 ?_
      try dsimp only [putL, setL, evL, getL]
      refine HL_nil ?_
      exact hK16 _ _ ⟨true, H, rfl, hH⟩
    · replace H := iteF hb22 H
      refine HL_want ?_ ?_
      · exact wantT (j := 3) (b := false) (t := 9) (c := !u21) rfl rfl rfl rfl hb22
      refine o_move ?_
      try dsimp only [putL, setL, evL, getL]
      refine HL_want ?_ ?_
      · exact wantT (j := 3) (b := false) (t := 9) (c := !u21) rfl rfl rfl rfl hb22
      refine o_faddr' (ft := 3) (off := 1) rfl Try.underlying27 rfl tI3 (by decide) ?_
      try dsimp only [putL, setL, evL, getL]
      refine HL_want ?_ ?_
      · exact wantT (j := 3) (b := false) (t := 9) (c := !u21) rfl rfl rfl rfl hb22
      refine o_load' rfl Try.underlying3 rfl (hH.hasv 0 rfl rfl) ?_
      try dsimp only [putL, setL, evL, getL]
      obtain ⟨u23, hu23, H⟩ := headE H
      refine HL_want ?_ ?_
      · exact wantT (j := 3) (b := false) (t := 9) (c := !u21) rfl rfl rfl rfl hb22
      refine o_call (args := #[.int .i64 p1, .int .i64 p0_1]) Try.func35 rfl rfl rfl (impl_isPlace.ok sb s21 no p1 p0_1 (Hp.own hH.bs) _ hu23) ?_
      rintro _ s23 ⟨rfl, hD⟩
      replace hH := hH.back0 hD (Up.refl _ _ _)
      clear hD
      dsimp only [addC, setC, rmC, selC, getC] at hH
      try dsimp only [putL, setL, evL, getL]
      refine HL_want ?_ ?_
      · exact wantT (j := 3) (b := false) (t := 9) (c := !u21) rfl rfl rfl rfl hb22
      refine o_not rfl ?_
      try dsimp only [putL, setL, evL, getL]
      refine HL_cons rfl ?_
      refine o_pickF rfl hb22 ?_
      try dsimp only [putL, setL, evL, getL]
      refine HL_nil ?_
      exact hK16 _ _ ⟨!u23, H, rfl, hH⟩
  · rintro l' s24 ⟨x20, H, hl, hH⟩
    generalize getL l' 6 = j6, getL l' 7 = j7, getL l' 8 = j8, getL l' 9 = j9, getL l' 10 = j10, getL l' 11 = j11, getL l' 12 = j12, getL l' 13 = j13, getL l' 14 = j14 at hl
    subst hl
    replace H := hG16 _ H
    try dsimp only at H
    rcases Bool.eq_false_or_eq_true x20 with hb25 | hb25
    · replace H := iteT hb25 H
      refine HT_true (congrArg Value.bool hb25) ?_
      refine HT_seq_k ?_
      intro K26 hK26
      refine HT_region ?_
      refine HL_cons rfl ?_
      refine o_assign ?_
      try dsimp only [putL, setL, evL, getL]
      refine HL_cons rfl ?_
      refine o_assign ?_
      try dsimp only [putL, setL, evL, getL]
      refine HL_nil ?_
      refine hK26 _ _ ?_
      refine HT_ret ?_
      obtain rfl := Option.some.inj (show some _ = some r from H)
      exact hQr _ _ [.slice none 0 0, .bool false] ⟨rfl, rfl, trivial⟩ ⟨none, 0, rfl, (hH.nil (K := KI) OI 3).sel [1] (by decide)⟩
    · replace H := iteF hb25 H
      refine HT_false (congrArg Value.bool hb25) ?_
      refine HT_skip ?_
      refine hK15 _ _ ?_
      refine HT_seq_k ?_
      intro K27 hK27
      refine HT_region ?_
      refine HL_cons rfl ?_
      refine o_loads' [.int .i64 p0_0, .int .i64 p0_1, .slice A0_2p p0_2.length c0_2p, .int .i64 p0_3, .int .i64 p0_4] rfl Try.underlying27 rfl tI27 rfl (hH.partv 0 rfl (0) [.int .i64 p0_0, .int .i64 p0_1, .slice A0_2p p0_2.length c0_2p, .int .i64 p0_3, .int .i64 p0_4] rfl) ?_
      try dsimp only [putL, setL, evL, getL]
      refine HL_cons rfl ?_
      refine o_move ?_
      try dsimp only [putL, setL, evL, getL]
      obtain ⟨u28, hu28, H⟩ := headE H
      refine HL_cons rfl ?_
      refine o_call (args := #[.agg #[.int .i64 p0_0, .int .i64 p0_1, .slice A0_2p p0_2.length c0_2p, .int .i64 p0_3, .int .i64 p0_4], .int .i64 p1]) Try.func54 rfl rfl rfl (impl_Screen_rowOf.ok sb s24 no p0_0 p0_1 A0_2p c0_2p p0_2 p0_3 p0_4 p1 HRp0_2 (Hp.own hH.bs) _ hu28) ?_
      rintro _ s28 ⟨A29, c29, rfl, hD⟩
      replace hH := hH.back0 hD (Up.refl _ _ _)
      clear hD
      dsimp only [addC, setC, rmC, selC, getC] at hH
      try dsimp only [putL, setL, evL, getL]
      refine HL_cons rfl ?_
      refine o_assign ?_
      try dsimp only [putL, setL, evL, getL]
      refine HL_cons rfl ?_
      refine o_assign ?_
      try dsimp only [putL, setL, evL, getL]
      refine HL_nil ?_
      refine hK27 _ _ ?_
      refine HT_ret ?_
      obtain rfl := Option.some.inj (show some _ = some r from H)
      exact hQr _ _ [.slice A29 u28.length c29, .bool true] ⟨rfl, rfl, trivial⟩ ⟨A29, c29, rfl, hH.sel [1] (by decide)⟩
end Go.Proofs.Ytihocjbngajjkaa
