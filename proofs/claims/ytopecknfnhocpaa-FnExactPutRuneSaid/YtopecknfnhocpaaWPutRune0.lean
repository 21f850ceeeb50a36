/- The functions that the law reaches, as plain functions, each with its contract: printed by a program of the prover's. No conditions: lemmas. -/
import Derived.Test.YtopecknfnhocpaaProg
import Derived.Test.YtopecknfnhocpaaGH
set_option linter.unusedVariables false
set_option linter.unusedSimpArgs false
namespace Go.Proofs.Ytopecknfnhocpaa
open Go Go.Proofs.GL
theorem tI3 : TI Try.prog 3 (.int .i64 0) 1 8 := by unfold TI; kernel_rfl
theorem tI22 : TI Try.prog 22 (.slice none 0 0) 1 24 := by unfold TI; kernel_rfl
theorem tI51 : TI Try.prog 51 (.agg #[.int .i64 0, .int .i64 0, .slice none 0 0, .int .i64 0, .int .i64 0]) 5 56 := by unfold TI; kernel_rfl
theorem tI55 : TI Try.prog 55 (.agg #[.int .i64 0, .int .i64 0, .slice none 0 0, .int .i64 0, .int .i64 0]) 5 56 := by unfold TI; kernel_rfl
theorem hMix : Try.prog.follows .mixedOrders = true := by kernel_rfl
def laws_szIntS.f (p0 : List (Int)) (p1 : Int) : Option Int := if (decide ((IntKind.i64.wrap (p1 - (p0.length : Int))) < 0)) = true then (some (-1)) else (some (IntKind.i64.wrap (p1 - (p0.length : Int))))
def laws_szIntS.post (sb s : St) (F0 : Fp) (r : Int) : Value → St → Prop := fun v s' => v = .int .i64 r ∧ Hp sb s F0 s' []
set_option maxRecDepth 100000 in
set_option maxHeartbeats 4000000 in
theorem laws_szIntS.ok (sb s : St) (F0 : Fp) (A0p : Option Addr) (c0p : Nat) (p0 : List (Int)) (p1 : Int) (HRp0 : Rd KI sb A0p c0p p0) (hH : Hp sb s F0 s []) (r : Int) (H : laws_szIntS.f p0 p1 = some r) : GCall Try.prog 83 #[.slice A0p p0.length c0p, .int .i64 p1] s (laws_szIntS.post sb s F0 r) := by
  refine GCall_ofk [.tmp 4] [.slice A0p p0.length c0p, .int .i64 p1, undef, undef, undef, undef, undef, undef, undef, undef, undef, undef] Try.func83 rfl rfl rfl ?_
  intro w Q hQr hQn hQp
  replace H := topE H
  unfold laws_szIntS.f at H
  refine HT_seq_k ?_
  intro K1 hK1
  refine HT_region ?_
  refine HL_cons rfl ?_
  refine o_assign ?_
  try dsimp only [putL, setL, evL, getL]
  refine HL_nil ?_
  refine hK1 _ _ ?_
  refine HT_seq_k ?_
  intro K2 hK2
  refine HT_region ?_
  refine HL_cons rfl ?_
  refine o_move ?_
  try dsimp only [putL, setL, evL, getL]
  refine HL_cons rfl ?_
  refine o_move ?_
  try dsimp only [putL, setL, evL, getL]
  refine HL_cons rfl ?_
  refine o_len rfl Try.underlying22 ?_
  try dsimp only [putL, setL, evL, getL]
  refine HL_cons rfl ?_
  refine o_bin rfl rfl rfl ?_
  try dsimp only [putL, setL, evL, getL]
  refine HL_cons rfl ?_
  refine o_assign ?_
  try dsimp only [putL, setL, evL, getL]
  refine HL_nil ?_
  refine hK2 _ _ ?_
  refine HT_seq_k ?_
  intro K3 hK3
  refine HT_seq_k ?_
  intro K4 hK4
  refine HT_region ?_
  refine HL_cons rfl ?_
  refine o_move ?_
  try dsimp only [putL, setL, evL, getL]
  refine HL_cons rfl ?_
  refine o_bin rfl rfl rfl ?_
  try dsimp only [putL, setL, evL, getL]
  refine HL_nil ?_
  refine hK4 _ _ ?_
  rcases Bool.eq_false_or_eq_true (decide ((IntKind.i64.wrap (p1 - (p0.length : Int))) < 0)) with hb5 | hb5
  · replace H := iteT hb5 H
    refine HT_true (congrArg Value.bool hb5) ?_
    refine HT_seq_k ?_
    intro K6 hK6
    refine HT_region ?_
    refine HL_cons rfl ?_
    refine o_assign ?_
    try dsimp only [putL, setL, evL, getL]
    refine HL_nil ?_
    refine hK6 _ _ ?_
    refine HT_ret ?_
    obtain rfl := Option.some.inj (show some _ = some r from H)
    exact hQr _ _ [.int .i64 (-1)] ⟨rfl, trivial⟩ ⟨rfl, hH⟩
  · replace H := iteF hb5 H
    refine HT_false (congrArg Value.bool hb5) ?_
    refine HT_skip ?_
    refine hK3 _ _ ?_
    refine HT_seq_k ?_
    intro K7 hK7
    refine HT_region ?_
    refine HL_cons rfl ?_
    refine o_move ?_
    try dsimp only [putL, setL, evL, getL]
    refine HL_cons rfl ?_
    refine o_assign ?_
    try dsimp only [putL, setL, evL, getL]
    refine HL_nil ?_
    refine hK7 _ _ ?_
    refine HT_ret ?_
    obtain rfl := Option.some.inj (show some _ = some r from H)
    exact hQr _ _ [.int .i64 (IntKind.i64.wrap (p1 - (p0.length : Int)))] ⟨rfl, trivial⟩ ⟨rfl, hH⟩
def laws_szScreen.f (p0_0 : Int) (p0_1 : Int) (p0_2 : List (Int)) (p0_3 : Int) (p0_4 : Int) (p1 : Int) : Option Int := (laws_szIntS.f p0_2 p1).bind fun u4 => if (decide (u4 < 0)) = true then (some (-1)) else (some u4)
def laws_szScreen.post (sb s : St) (F0 : Fp) (r : Int) : Value → St → Prop := fun v s' => v = .int .i64 r ∧ Hp sb s F0 s' []
set_option maxRecDepth 100000 in
set_option maxHeartbeats 4000000 in
theorem laws_szScreen.ok (sb s : St) (F0 : Fp) (p0_0 : Int) (p0_1 : Int) (A0_2p : Option Addr) (c0_2p : Nat) (p0_2 : List (Int)) (p0_3 : Int) (p0_4 : Int) (p1 : Int) (HRp0_2 : Rd KI sb A0_2p c0_2p p0_2) (hH : Hp sb s F0 s []) (r : Int) (H : laws_szScreen.f p0_0 p0_1 p0_2 p0_3 p0_4 p1 = some r) : GCall Try.prog 39 #[.agg #[.int .i64 p0_0, .int .i64 p0_1, .slice A0_2p p0_2.length c0_2p, .int .i64 p0_3, .int .i64 p0_4], .int .i64 p1] s (laws_szScreen.post sb s F0 r) := by
  refine GCall_ofk [.tmp 4] [.agg #[.int .i64 p0_0, .int .i64 p0_1, .slice A0_2p p0_2.length c0_2p, .int .i64 p0_3, .int .i64 p0_4], .int .i64 p1, undef, undef, undef, undef, undef, undef, undef, undef, undef, undef] Try.func39 rfl rfl rfl ?_
  intro w Q hQr hQn hQp
  replace H := topE H
  unfold laws_szScreen.f at H
  refine HT_seq_k ?_
  intro K1 hK1
  refine HT_region ?_
  refine HL_cons rfl ?_
  refine o_boxH hH rfl ?_
  intro b2 s2 hH' hG
  replace hH : Hp sb s F0 s2 [Ck.ov b2 [.int .i64 p0_0, .int .i64 p0_1, .slice A0_2p p0_2.length c0_2p, .int .i64 p0_3, .int .i64 p0_4] 51] := hH'
  clear hH' hG
  try dsimp only [putL, setL, evL, getL]
  refine HL_cons rfl ?_
  refine o_assign ?_
  try dsimp only [putL, setL, evL, getL]
  refine HL_nil ?_
  refine hK1 _ _ ?_
  refine HT_seq_k ?_
  intro K3 hK3
  refine HT_region ?_
  refine HL_cons rfl ?_
  refine o_faddr' (ft := 22) (off := 2) rfl Try.underlying51 rfl tI22 (by decide) ?_
  try dsimp only [putL, setL, evL, getL]
  refine HL_cons rfl ?_
  refine o_load' rfl Try.underlying22 rfl (hH.hasv 0 rfl rfl) ?_
  try dsimp only [putL, setL, evL, getL]
  refine HL_cons rfl ?_
  refine o_move ?_
  try dsimp only [putL, setL, evL, getL]
  obtain ⟨u4, hu4, H⟩ := headE H
  refine HL_cons rfl ?_
  refine o_call (args := #[.slice A0_2p p0_2.length c0_2p, .int .i64 p1]) Try.func83 rfl rfl rfl (laws_szIntS.ok sb s2 no A0_2p c0_2p p0_2 p1 HRp0_2 (Hp.own hH.bs) _ hu4) ?_
  rintro _ s4 ⟨rfl, hD⟩
  replace hH := hH.back0 hD (Up.refl _ _ _)
  clear hD
  dsimp only [addC, setC, rmC, selC, getC] at hH
  try dsimp only [putL, setL, evL, getL]
  refine HL_cons rfl ?_
  refine o_assign ?_
  try dsimp only [putL, setL, evL, getL]
  refine HL_nil ?_
  refine hK3 _ _ ?_
  refine HT_seq_k ?_
  intro K5 hK5
  refine HT_seq_k ?_
  intro K6 hK6
  refine HT_region ?_
  refine HL_cons rfl ?_
  refine o_move ?_
  try dsimp only [putL, setL, evL, getL]
  refine HL_cons rfl ?_
  refine o_bin rfl rfl rfl ?_
  try dsimp only [putL, setL, evL, getL]
  refine HL_nil ?_
  refine hK6 _ _ ?_
  rcases Bool.eq_false_or_eq_true (decide (u4 < 0)) with hb7 | hb7
  · replace H := iteT hb7 H
    refine HT_true (congrArg Value.bool hb7) ?_
    refine HT_seq_k ?_
    intro K8 hK8
    refine HT_region ?_
    refine HL_cons rfl ?_
    refine o_assign ?_
    try dsimp only [putL, setL, evL, getL]
    refine HL_nil ?_
    refine hK8 _ _ ?_
    refine HT_ret ?_
    obtain rfl := Option.some.inj (show some _ = some r from H)
    exact hQr _ _ [.int .i64 (-1)] ⟨rfl, trivial⟩ ⟨rfl, hH.sel [] (by decide)⟩
  · replace H := iteF hb7 H
    refine HT_false (congrArg Value.bool hb7) ?_
    refine HT_skip ?_
    refine hK5 _ _ ?_
    refine HT_seq_k ?_
    intro K9 hK9
    refine HT_region ?_
    refine HL_cons rfl ?_
    refine o_move ?_
    try dsimp only [putL, setL, evL, getL]
    refine HL_cons rfl ?_
    refine o_assign ?_
    try dsimp only [putL, setL, evL, getL]
    refine HL_nil ?_
    refine hK9 _ _ ?_
    refine HT_ret ?_
    obtain rfl := Option.some.inj (show some _ = some r from H)
    exact hQr _ _ [.int .i64 u4] ⟨rfl, trivial⟩ ⟨rfl, hH.sel [] (by decide)⟩
def laws_toIntS.l1 (p0 : List (Int)) : Nat → (List (Int)) → Int → Option (List (Int))
  | 0, _, _ => none
  | kf + 1, x41, x42 => if (decide (x42 < (p0.length : Int))) = true then ((rd? p0 x42).bind fun u57 => (rd? x41 x42).bind fun u58 => (st? x41 x42 u57).bind fun x59 => laws_toIntS.l1 p0 kf x59 (IntKind.i64.wrap (x42 + 1))) else (some x41)
def laws_toIntS.f (p0 : List (Int)) : Option (List (Int)) := (mk? 17592186044416 0 (p0.length : Int)).bind fun x3 => (laws_toIntS.l1 p0 ((((p0.length : Int)) - (0)).toNat + 2) x3 0).bind fun (o : (List (Int))) => match o with | x33 => (some x33)
def laws_toIntS.post (sb s : St) (F0 : Fp) (r : (List (Int))) : Value → St → Prop := fun v s' => ∃ (A0 : Option Addr) (c0 : Nat), v = .slice A0 r.length c0 ∧ Hp sb s F0 s' [Ck.ol OI 3 A0 c0 r]
set_option maxRecDepth 100000 in
set_option maxHeartbeats 4000000 in
theorem laws_toIntS.ok (sb s : St) (F0 : Fp) (A0p : Option Addr) (c0p : Nat) (p0 : List (Int)) (HRp0 : Rd KI sb A0p c0p p0) (hH : Hp sb s F0 s []) (r : (List (Int))) (H : laws_toIntS.f p0 = some r) : GCall Try.prog 16 #[.slice A0p p0.length c0p] s (laws_toIntS.post sb s F0 r) := by
  refine GCall_ofk [.tmp 2] [.slice A0p p0.length c0p, undef, undef, undef, undef, undef, undef, undef, undef, undef, undef, undef, undef, undef, undef, undef, undef, undef, undef, undef, undef, undef] Try.func16 rfl rfl rfl ?_
  intro w Q hQr hQn hQp
  replace H := topE H
  unfold laws_toIntS.f at H
  refine HT_seq_k ?_
  intro K1 hK1
  refine HT_region ?_
  refine HL_cons rfl ?_
  refine o_assign ?_
  try dsimp only [putL, setL, evL, getL]
  refine HL_nil ?_
  refine hK1 _ _ ?_
  refine HT_seq_k ?_
  intro K2 hK2
  refine HT_region ?_
  refine HL_cons rfl ?_
  refine o_move ?_
  try dsimp only [putL, setL, evL, getL]
  refine HL_cons rfl ?_
  refine o_len rfl Try.underlying22 ?_
  try dsimp only [putL, setL, evL, getL]
  obtain ⟨x3, hx3, H⟩ := headE H
  refine HL_cons rfl ?_
  refine o_makeH (K := KI) (O := OI) (x0 := 0) hH rfl Try.underlying22 tI3 rfl (by decide) (by decide) (by decide) (Own0.fl fun _ => rfl) hx3 ?_
  intro A3 c3 s3 hH' hG
  replace hH : Hp sb s F0 s3 [Ck.ol OI 3 A3 c3 x3] := hH'
  clear hH' hG
  try dsimp only [putL, setL, evL, getL]
  refine HL_cons rfl ?_
  refine o_assign ?_
  try dsimp only [putL, setL, evL, getL]
  refine HL_nil ?_
  refine hK2 _ _ ?_
  refine HT_seq_k ?_
  intro K4 hK4
  refine HT_seq_k ?_
  intro K5 hK5
  refine HT_region ?_
  refine HL_cons rfl ?_
  refine o_assign ?_
  try dsimp only [putL, setL, evL, getL]
  refine HL_nil ?_
  refine hK5 _ _ ?_
  refine joinH H fun G6 hG6 H => ?_
  refine HT_toK (fun l' s' => ∃ (x33 : List (Int)), G6 x33 = some r ∧ l' = [.slice A0p p0.length c0p, undef, .slice none 0 0, .slice A3 x3.length c3, getL l' 4, .slice A0p p0.length c0p, .int .i64 (p0.length : Int), .slice A3 x3.length c3, getL l' 8, getL l' 9, getL l' 10, getL l' 11, getL l' 12, getL l' 13, getL l' 14, getL l' 15, getL l' 16, getL l' 17, getL l' 18, getL l' 19, getL l' 20, undef] ∧ Hp sb s F0 s' [Ck.ol OI 3 A3 c3 x33] ∧ x33.length = x3.length) ?_ ?_
  · intro K6 hK6
    refine HT_block ?_
    refine HT_loopK (fun kf l' s' => ∃ (x41 : List (Int)) (x42 : Int), (laws_toIntS.l1 p0 kf x41 x42).bind G6 = some r ∧ l' = [.slice A0p p0.length c0p, undef, .slice none 0 0, .slice A3 x3.length c3, .int .i64 x42, .slice A0p p0.length c0p, .int .i64 (p0.length : Int), .slice A3 x3.length c3, getL l' 8, getL l' 9, getL l' 10, getL l' 11, getL l' 12, getL l' 13, getL l' 14, getL l' 15, getL l' 16, getL l' 17, getL l' 18, getL l' 19, getL l' 20, undef] ∧ Hp sb s F0 s' [Ck.ol OI 3 A3 c3 x41] ∧ x41.length = x3.length) ((((p0.length : Int)) - (0)).toNat + 2) ⟨x3, 0, H, rfl, hH, rfl⟩ ?_
    rintro kf l' s52 ⟨x41, x42, H, hl, hH, hl41⟩ K52 hK52
    generalize getL l' 8 = j8, getL l' 9 = j9, getL l' 10 = j10, getL l' 11 = j11, getL l' 12 = j12, getL l' 13 = j13, getL l' 14 = j14, getL l' 15 = j15, getL l' 16 = j16, getL l' 17 = j17, getL l' 18 = j18, getL l' 19 = j19, getL l' 20 = j20 at hl
    subst hl
    cases kf with
    | zero => simp [laws_toIntS.l1] at H
    | succ kf =>
      rw [laws_toIntS.l1] at H
      refine HT_seq_k ?_
      intro K53 hK53
      refine HT_seq_k ?_
      intro K54 hK54
      refine HT_region ?_
      refine HL_cons rfl ?_
      refine o_move ?_
      try dsimp only [putL, setL, evL, getL]
      refine HL_cons rfl ?_
      refine o_move ?_
      try dsimp only [putL, setL, evL, getL]
      refine HL_cons rfl ?_
      refine o_len rfl Try.underlying22 ?_
      try dsimp only [putL, setL, evL, getL]
      refine HL_cons rfl ?_
      refine o_bin rfl rfl rfl ?_
      try dsimp only [putL, setL, evL, getL]
      refine HL_nil ?_
      refine hK54 _ _ ?_
      rcases Bool.eq_false_or_eq_true (decide (x42 < (p0.length : Int))) with hb55 | hb55
      · replace H := iteT hb55 H
        refine HT_true (congrArg Value.bool hb55) ?_
        refine HT_skip ?_
        refine hK53 _ _ ?_
        refine HT_seq_k ?_
        intro K56 hK56
        refine HT_block ?_
        refine HT_region ?_
        refine HL_cons rfl ?_
        refine o_move ?_
        try dsimp only [putL, setL, evL, getL]
        refine HL_cons rfl ?_
        refine o_move ?_
        try dsimp only [putL, setL, evL, getL]
        refine HL_cons rfl ?_
        refine o_move ?_
        try dsimp only [putL, setL, evL, getL]
        refine HL_cons rfl ?_
        refine o_move ?_
        try dsimp only [putL, setL, evL, getL]
        obtain ⟨u57, hu57, H⟩ := headE H
        obtain ⟨b57, o57, cs57, hr57, hh57, hel57⟩ := Rd.elb HRp0 hu57
        obtain rfl := hr57
        refine HL_cons rfl ?_
        refine hel57 s52 rfl rfl Try.underlying22 tI3 ?_
        try dsimp only [putL, setL, evL, getL]
        refine HL_cons rfl ?_
        refine o_load' rfl Try.underlying3 rfl ((hh57 hH.bs.mono) 0 _ rfl) ?_
        try dsimp only [putL, setL, evL, getL]
        obtain ⟨u58, hu58, H⟩ := headE H
        obtain ⟨b58, o58, cs58, hA58, hr58, hh58, hel58⟩ := hH.elo 0 rfl hu58
        obtain rfl := hr58
        refine HL_cons rfl ?_
        refine hel58 s52 (sliceLen hl41) rfl Try.underlying22 tI3 ?_
        try dsimp only [putL, setL, evL, getL]
        obtain ⟨x59, hx59, H⟩ := headE H
        refine HL_cons rfl ?_
        refine o_setF (vs := [.int .i64 u57]) (u := u57) hH 0 rfl rfl rfl rfl rfl tI3 hA58 hx59 (Ent.own (Ent.flat rfl)) ?_
        intro s59 hH'
        have hl59 := (st?_len hx59).trans hl41
        replace hH : Hp sb s F0 s59 [Ck.ol OI 3 A3 c3 x59] := hH'
        clear hH'
        try dsimp only [putL, setL, evL, getL]
        refine HL_nil ?_
        refine hK56 _ _ ?_
        refine HT_region ?_
        refine HL_cons rfl ?_
        refine o_move ?_
        try dsimp only [putL, setL, evL, getL]
        refine HL_cons rfl ?_
        refine o_bin rfl rfl rfl ?_
        try dsimp only [putL, setL, evL, getL]
        refine HL_cons rfl ?_
        refine o_assign ?_
        try dsimp only [putL, setL, evL, getL]
        refine HL_nil ?_
        exact hK52 _ _ ⟨kf, Nat.lt_succ_self kf, x59, IntKind.i64.wrap (x42 + 1), H, rfl, hH, hl59⟩
      · replace H := iteF hb55 H
        refine HT_false (congrArg Value.bool hb55) ?_
        refine HT_exit ?_
        exact hK6 _ _ ⟨x41, H, rfl, hH, hl41⟩
  · rintro l' s60 ⟨x33, H, hl, hH, hl33⟩
    generalize getL l' 4 = j4, getL l' 8 = j8, getL l' 9 = j9, getL l' 10 = j10, getL l' 11 = j11, getL l' 12 = j12, getL l' 13 = j13, getL l' 14 = j14, getL l' 15 = j15, getL l' 16 = j16, getL l' 17 = j17, getL l' 18 = j18, getL l' 19 = j19, getL l' 20 = j20 at hl
    subst hl
    replace H := hG6 _ H
    try dsimp only at H
    refine hK4 _ _ ?_
    refine HT_seq_k ?_
    intro K61 hK61
    refine HT_region ?_
    refine HL_cons rfl ?_
    refine o_move ?_
    try dsimp only [putL, setL, evL, getL]
    refine HL_cons rfl ?_
    refine o_assign ?_
    try dsimp only [putL, setL, evL, getL]
    refine HL_nil ?_
    refine hK61 _ _ ?_
    refine HT_ret ?_
    obtain rfl := Option.some.inj (show some _ = some r from H)
    exact hQr _ _ [.slice A3 x3.length c3] ⟨rfl, trivial⟩ ⟨A3, c3, (by first | (rw [hl33]; first | done | rfl) | rfl), hH⟩
def laws_toScreen.f (p0_0 : Int) (p0_1 : Int) (p0_2 : List (Int)) (p0_3 : Int) (p0_4 : Int) : Option (Int × Int × (List (Int)) × Int × Int) := (laws_toIntS.f p0_2).bind fun u11 => some (p0_0, p0_1, u11, p0_3, p0_4)
def laws_toScreen.post (sb s : St) (F0 : Fp) (r : Int × Int × (List (Int)) × Int × Int) : Value → St → Prop := fun v s' => ∃ (A2 : Option Addr) (c2 : Nat), v = .agg #[.int .i64 r.1, .int .i64 r.2.1, .slice A2 r.2.2.1.length c2, .int .i64 r.2.2.2.1, .int .i64 r.2.2.2.2] ∧ Hp sb s F0 s' [Ck.ol OI 3 A2 c2 r.2.2.1]
set_option maxRecDepth 100000 in
set_option maxHeartbeats 4000000 in
theorem laws_toScreen.ok (sb s : St) (F0 : Fp) (p0_0 : Int) (p0_1 : Int) (A0_2p : Option Addr) (c0_2p : Nat) (p0_2 : List (Int)) (p0_3 : Int) (p0_4 : Int) (HRp0_2 : Rd KI sb A0_2p c0_2p p0_2) (hH : Hp sb s F0 s []) (r : Int × Int × (List (Int)) × Int × Int) (H : laws_toScreen.f p0_0 p0_1 p0_2 p0_3 p0_4 = some r) : GCall Try.prog 41 #[.agg #[.int .i64 p0_0, .int .i64 p0_1, .slice A0_2p p0_2.length c0_2p, .int .i64 p0_3, .int .i64 p0_4]] s (laws_toScreen.post sb s F0 r) := by
  refine GCall_ofk [.cell 2 55] [.agg #[.int .i64 p0_0, .int .i64 p0_1, .slice A0_2p p0_2.length c0_2p, .int .i64 p0_3, .int .i64 p0_4], undef, undef, undef, undef, undef, undef, undef, undef, undef, undef, undef, undef, undef, undef, undef, undef, undef, undef, undef, undef] Try.func41 rfl rfl rfl ?_
  intro w Q hQr hQn hQp
  replace H := topE H
  unfold laws_toScreen.f at H
  refine HT_seq_k ?_
  intro K1 hK1
  refine HT_region ?_
  refine HL_cons rfl ?_
  refine o_boxH hH rfl ?_
  intro b2 s2 hH' hG
  replace hH : Hp sb s F0 s2 [Ck.ov b2 [.int .i64 p0_0, .int .i64 p0_1, .slice A0_2p p0_2.length c0_2p, .int .i64 p0_3, .int .i64 p0_4] 51] := hH'
  clear hH' hG
  try dsimp only [putL, setL, evL, getL]
  refine HL_cons rfl ?_
  refine o_allocH hH tI55 ?_
  intro b3 s3 hH' hG
  replace hH : Hp sb s F0 s3 [Ck.ov b2 [.int .i64 p0_0, .int .i64 p0_1, .slice A0_2p p0_2.length c0_2p, .int .i64 p0_3, .int .i64 p0_4] 51, Ck.ov b3 [.int .i64 0, .int .i64 0, .slice none 0 0, .int .i64 0, .int .i64 0] 55] := hH'
  clear hH' hG
  try dsimp only [putL, setL, evL, getL]
  refine HL_nil ?_
  refine hK1 _ _ ?_
  refine HT_seq_k ?_
  intro K4 hK4
  refine HT_region ?_
  refine HL_cons rfl ?_
  refine o_allocH hH tI55 ?_
  intro b5 s5 hH' hG
  replace hH : Hp sb s F0 s5 [Ck.ov b2 [.int .i64 p0_0, .int .i64 p0_1, .slice A0_2p p0_2.length c0_2p, .int .i64 p0_3, .int .i64 p0_4] 51, Ck.ov b3 [.int .i64 0, .int .i64 0, .slice none 0 0, .int .i64 0, .int .i64 0] 55, Ck.ov b5 [.int .i64 0, .int .i64 0, .slice none 0 0, .int .i64 0, .int .i64 0] 55] := hH'
  clear hH' hG
  try dsimp only [putL, setL, evL, getL]
  refine HL_nil ?_
  refine hK4 _ _ ?_
  refine HT_seq_k ?_
  intro K6 hK6
  refine HT_region ?_
  refine HL_cons rfl ?_
  refine o_faddr' (ft := 3) (off := 0) rfl Try.underlying51 rfl tI3 (by decide) ?_
  try dsimp only [putL, setL, evL, getL]
  refine HL_cons rfl ?_
  refine o_load' rfl Try.underlying3 rfl (hH.hasv 0 rfl rfl) ?_
  try dsimp only [putL, setL, evL, getL]
  refine HL_cons rfl ?_
  refine o_faddr' (ft := 3) (off := 0) rfl Try.underlying55 rfl tI3 (by decide) ?_
  try dsimp only [putL, setL, evL, getL]
  refine HL_cons rfl ?_
  refine o_stvH (vs := [.int .i64 p0_0]) (us' := [.int .i64 p0_0, .int .i64 0, .slice none 0 0, .int .i64 0, .int .i64 0]) hH 2 rfl rfl rfl rfl rfl tI3 rfl (List.cons_ne_nil _ _) rfl rfl rfl ?_
  intro s7 hH'
  replace hH : Hp sb s F0 s7 [Ck.ov b2 [.int .i64 p0_0, .int .i64 p0_1, .slice A0_2p p0_2.length c0_2p, .int .i64 p0_3, .int .i64 p0_4] 51, Ck.ov b3 [.int .i64 0, .int .i64 0, .slice none 0 0, .int .i64 0, .int .i64 0] 55, Ck.ov b5 [.int .i64 p0_0, .int .i64 0, .slice none 0 0, .int .i64 0, .int .i64 0] 55] := hH'
  clear hH'
  try dsimp only [putL, setL, evL, getL]
  refine HL_nil ?_
  refine hK6 _ _ ?_
  refine HT_seq_k ?_
  intro K8 hK8
  refine HT_region ?_
  refine HL_cons rfl ?_
  refine o_faddr' (ft := 3) (off := 1) rfl Try.underlying51 rfl tI3 (by decide) ?_
  try dsimp only [putL, setL, evL, getL]
  refine HL_cons rfl ?_
  refine o_load' rfl Try.underlying3 rfl (hH.hasv 0 rfl rfl) ?_
  try dsimp only [putL, setL, evL, getL]
  refine HL_cons rfl ?_
  refine o_faddr' (ft := 3) (off := 1) rfl Try.underlying55 rfl tI3 (by decide) ?_
  try dsimp only [putL, setL, evL, getL]
  refine HL_cons rfl ?_
  refine o_stvH (vs := [.int .i64 p0_1]) (us' := [.int .i64 p0_0, .int .i64 p0_1, .slice none 0 0, .int .i64 0, .int .i64 0]) hH 2 rfl rfl rfl rfl rfl tI3 rfl (List.cons_ne_nil _ _) rfl rfl rfl ?_
  intro s9 hH'
  replace hH : Hp sb s F0 s9 [Ck.ov b2 [.int .i64 p0_0, .int .i64 p0_1, .slice A0_2p p0_2.length c0_2p, .int .i64 p0_3, .int .i64 p0_4] 51, Ck.ov b3 [.int .i64 0, .int .i64 0, .slice none 0 0, .int .i64 0, .int .i64 0] 55, Ck.ov b5 [.int .i64 p0_0, .int .i64 p0_1, .slice none 0 0, .int .i64 0, .int .i64 0] 55] := hH'
  clear hH'
  try dsimp only [putL, setL, evL, getL]
  refine HL_nil ?_
  refine hK8 _ _ ?_
  refine HT_seq_k ?_
  intro K10 hK10
  refine HT_region ?_
  refine HL_cons rfl ?_
  refine o_faddr' (ft := 22) (off := 2) rfl Try.underlying51 rfl tI22 (by decide) ?_
  try dsimp only [putL, setL, evL, getL]
  refine HL_cons rfl ?_
  refine o_load' rfl Try.underlying22 rfl (hH.hasv 0 rfl rfl) ?_
  try dsimp only [putL, setL, evL, getL]
  obtain ⟨u11, hu11, H⟩ := headE H
  refine HL_cons rfl ?_
  refine o_call (args := #[.slice A0_2p p0_2.length c0_2p]) Try.func16 rfl rfl rfl (laws_toIntS.ok sb s9 no A0_2p c0_2p p0_2 HRp0_2 (Hp.own hH.bs) _ hu11) ?_
  rintro _ s11 ⟨A12, c12, rfl, hD⟩
  replace hH := hH.back0 hD (Up.refl _ _ _)
  clear hD
  dsimp only [addC, setC, rmC, selC, getC] at hH
  try dsimp only [putL, setL, evL, getL]
  refine HL_cons rfl ?_
  refine o_faddr' (ft := 22) (off := 2) rfl Try.underlying55 rfl tI22 (by decide) ?_
  try dsimp only [putL, setL, evL, getL]
  refine HL_cons rfl ?_
  refine o_stvH (vs := [.slice A12 u11.length c12]) (us' := [.int .i64 p0_0, .int .i64 p0_1, .slice A12 u11.length c12, .int .i64 0, .int .i64 0]) hH 2 rfl rfl rfl rfl rfl tI22 rfl (List.cons_ne_nil _ _) rfl rfl rfl ?_
  intro s13 hH'
  replace hH : Hp sb s F0 s13 [Ck.ov b2 [.int .i64 p0_0, .int .i64 p0_1, .slice A0_2p p0_2.length c0_2p, .int .i64 p0_3, .int .i64 p0_4] 51, Ck.ov b3 [.int .i64 0, .int .i64 0, .slice none 0 0, .int .i64 0, .int .i64 0] 55, Ck.ov b5 [.int .i64 p0_0, .int .i64 p0_1, .slice A12 u11.length c12, .int .i64 0, .int .i64 0] 55, Ck.ol OI 3 A12 c12 u11] := hH'
  clear hH'
  try dsimp only [putL, setL, evL, getL]
  refine HL_nil ?_
  refine hK10 _ _ ?_
  refine HT_seq_k ?_
  intro K14 hK14
  refine HT_region ?_
  refine HL_cons rfl ?_
  refine o_faddr' (ft := 3) (off := 3) rfl Try.underlying51 rfl tI3 (by decide) ?_
  try dsimp only [putL, setL, evL, getL]
  refine HL_cons rfl ?_
  refine o_load' rfl Try.underlying3 rfl (hH.hasv 0 rfl rfl) ?_
  try dsimp only [putL, setL, evL, getL]
  refine HL_cons rfl ?_
  refine o_faddr' (ft := 3) (off := 3) rfl Try.underlying55 rfl tI3 (by decide) ?_
  try dsimp only [putL, setL, evL, getL]
  refine HL_cons rfl ?_
  refine o_stvH (vs := [.int .i64 p0_3]) (us' := [.int .i64 p0_0, .int .i64 p0_1, .slice A12 u11.length c12, .int .i64 p0_3, .int .i64 0]) hH 2 rfl rfl rfl rfl rfl tI3 rfl (List.cons_ne_nil _ _) rfl rfl rfl ?_
  intro s15 hH'
  replace hH : Hp sb s F0 s15 [Ck.ov b2 [.int .i64 p0_0, .int .i64 p0_1, .slice A0_2p p0_2.length c0_2p, .int .i64 p0_3, .int .i64 p0_4] 51, Ck.ov b3 [.int .i64 0, .int .i64 0, .slice none 0 0, .int .i64 0, .int .i64 0] 55, Ck.ov b5 [.int .i64 p0_0, .int .i64 p0_1, .slice A12 u11.length c12, .int .i64 p0_3, .int .i64 0] 55, Ck.ol OI 3 A12 c12 u11] := hH'
  clear hH'
  try dsimp only [putL, setL, evL, getL]
  refine HL_nil ?_
  refine hK14 _ _ ?_
  refine HT_seq_k ?_
  intro K16 hK16
  refine HT_region ?_
  refine HL_cons rfl ?_
  refine o_faddr' (ft := 3) (off := 4) rfl Try.underlying51 rfl tI3 (by decide) ?_
  try dsimp only [putL, setL, evL, getL]
  refine HL_cons rfl ?_
  refine o_load' rfl Try.underlying3 rfl (hH.hasv 0 rfl rfl) ?_
  try dsimp only [putL, setL, evL, getL]
  refine HL_cons rfl ?_
  refine o_faddr' (ft := 3) (off := 4) rfl Try.underlying55 rfl tI3 (by decide) ?_
  try dsimp only [putL, setL, evL, getL]
  refine HL_cons rfl ?_
  refine o_stvH (vs := [.int .i64 p0_4]) (us' := [.int .i64 p0_0, .int .i64 p0_1, .slice A12 u11.length c12, .int .i64 p0_3, .int .i64 p0_4]) hH 2 rfl rfl rfl rfl rfl tI3 rfl (List.cons_ne_nil _ _) rfl rfl rfl ?_
  intro s17 hH'
  replace hH : Hp sb s F0 s17 [Ck.ov b2 [.int .i64 p0_0, .int .i64 p0_1, .slice A0_2p p0_2.length c0_2p, .int .i64 p0_3, .int .i64 p0_4] 51, Ck.ov b3 [.int .i64 0, .int .i64 0, .slice none 0 0, .int .i64 0, .int .i64 0] 55, Ck.ov b5 [.int .i64 p0_0, .int .i64 p0_1, .slice A12 u11.length c12, .int .i64 p0_3, .int .i64 p0_4] 55, Ck.ol OI 3 A12 c12 u11] := hH'
  clear hH'
  try dsimp only [putL, setL, evL, getL]
  refine HL_nil ?_
  refine hK16 _ _ ?_
  refine HT_seq_k ?_
  intro K18 hK18
  refine HT_region ?_
  refine HL_cons rfl ?_
  refine o_loads' [.int .i64 p0_0, .int .i64 p0_1, .slice A12 u11.length c12, .int .i64 p0_3, .int .i64 p0_4] rfl Try.underlying55 rfl tI55 rfl (hH.partv 2 rfl (0) [.int .i64 p0_0, .int .i64 p0_1, .slice A12 u11.length c12, .int .i64 p0_3, .int .i64 p0_4] rfl) ?_
  try dsimp only [putL, setL, evL, getL]
  refine HL_cons rfl ?_
  refine o_stvH (vs := [.int .i64 p0_0, .int .i64 p0_1, .slice A12 u11.length c12, .int .i64 p0_3, .int .i64 p0_4]) (us' := [.int .i64 p0_0, .int .i64 p0_1, .slice A12 u11.length c12, .int .i64 p0_3, .int .i64 p0_4]) hH 1 rfl rfl rfl rfl rfl tI55 rfl (List.cons_ne_nil _ _) rfl rfl rfl ?_
  intro s19 hH'
  replace hH : Hp sb s F0 s19 [Ck.ov b2 [.int .i64 p0_0, .int .i64 p0_1, .slice A0_2p p0_2.length c0_2p, .int .i64 p0_3, .int .i64 p0_4] 51, Ck.ov b3 [.int .i64 p0_0, .int .i64 p0_1, .slice A12 u11.length c12, .int .i64 p0_3, .int .i64 p0_4] 55, Ck.ov b5 [.int .i64 p0_0, .int .i64 p0_1, .slice A12 u11.length c12, .int .i64 p0_3, .int .i64 p0_4] 55, Ck.ol OI 3 A12 c12 u11] := hH'
  clear hH'
  try dsimp only [putL, setL, evL, getL]
  refine HL_nil ?_
  refine hK18 _ _ ?_
  refine HT_ret ?_
  obtain rfl := Option.some.inj (show some _ = some r from H)
  exact hQr _ _ [.agg #[.int .i64 p0_0, .int .i64 p0_1, .slice A12 u11.length c12, .int .i64 p0_3, .int .i64 p0_4]] ⟨ResV.cells rfl Try.underlying55 rfl tI55 (hH.var 1 rfl) rfl, trivial⟩ ⟨A12, c12, rfl, hH.sel [3] (by decide)⟩
def spec_l1In.f (p0 : Int) (p1 : Int) (p2 : Int) : Option Bool := if (decide (p0 ≥ p1)) = true then (some (decide (p0 ≤ p2))) else (some false)
def spec_l1In.post (sb s : St) (F0 : Fp) (r : Bool) : Value → St → Prop := fun v s' => v = .bool r ∧ Hp sb s F0 s' []
set_option maxRecDepth 100000 in
set_option maxHeartbeats 4000000 in
theorem spec_l1In.ok (sb s : St) (F0 : Fp) (p0 : Int) (p1 : Int) (p2 : Int) (hH : Hp sb s F0 s []) (r : Bool) (H : spec_l1In.f p0 p1 p2 = some r) : GCall Try.prog 84 #[.int .i64 p0, .int .i64 p1, .int .i64 p2] s (spec_l1In.post sb s F0 r) := by
  refine GCall_ofk [.tmp 6] [.int .i64 p0, .int .i64 p1, .int .i64 p2, undef, undef, undef, undef, undef, undef, undef, undef, undef, undef, undef, undef] Try.func84 rfl rfl rfl ?_
  intro w Q hQr hQn hQp
  replace H := topE H
  unfold spec_l1In.f at H
  refine HT_seq_k ?_
  intro K1 hK1
  refine HT_region ?_
  refine HL_cons rfl ?_
  refine o_assign ?_
  try dsimp only [putL, setL, evL, getL]
  refine HL_nil ?_
  refine hK1 _ _ ?_
  refine HT_seq_k ?_
  intro K2 hK2
  refine HT_region ?_
  refine HL_cons rfl ?_
  refine o_move ?_
  try dsimp only [putL, setL, evL, getL]
  refine HL_cons rfl ?_
  refine o_move ?_
  try dsimp only [putL, setL, evL, getL]
  refine HL_cons rfl ?_
  refine o_bin rfl rfl rfl ?_
  try dsimp only [putL, setL, evL, getL]
  refine HL_cons rfl ?_
  refine o_move ?_
  try dsimp only [putL, setL, evL, getL]
  rcases Bool.eq_false_or_eq_true (decide (p0 ≥ p1)) with hb3 | hb3
  · replace H := iteT hb3 H
    refine HL_want ?_ ?_
    · exact wantT (j := 3) (b := true) (t := 10) (c := decide (p0 ≥ p1)) rfl rfl rfl rfl hb3
    refine o_move ?_
    try dsimp only [putL, setL, evL, getL]
    refine HL_want ?_ ?_
    · exact wantT (j := 3) (b := true) (t := 10) (c := decide (p0 ≥ p1)) rfl rfl rfl rfl hb3
    refine o_move ?_
    try dsimp only [putL, setL, evL, getL]
    refine HL_want ?_ ?_
    · exact wantT (j := 3) (b := true) (t := 10) (c := decide (p0 ≥ p1)) rfl rfl rfl rfl hb3
    refine o_bin rfl rfl rfl ?_
    try dsimp only [putL, setL, evL, getL]
    refine HL_cons rfl ?_
    refine o_pickT rfl hb3 ?_
    try dsimp only [putL, setL, evL, getL]
    refine HL_cons rfl ?_
    refine o_assign ?_
    try dsimp only [putL, setL, evL, getL]
    refine HL_nil ?_
    refine hK2 _ _ ?_
    refine HT_ret ?_
    obtain rfl := Option.some.inj (show some _ = some r from H)
    exact hQr _ _ [.bool (decide (p0 ≤ p2))] ⟨rfl, trivial⟩ ⟨rfl, hH⟩
  · replace H := iteF hb3 H
    refine HL_skip ?_ ?_
    · exact wantF (j := 3) (b := true) (t := 10) (c := decide (p0 ≥ p1)) rfl rfl rfl rfl hb3
    try dsimp only [putL, setL, evL, getL]
    refine HL_skip ?_ ?_
    · exact wantF (j := 3) (b := true) (t := 10) (c := decide (p0 ≥ p1)) rfl rfl rfl rfl hb3
    try dsimp only [putL, setL, evL, getL]
    refine HL_skip ?_ ?_
    · exact wantF (j := 3) (b := true) (t := 10) (c := decide (p0 ≥ p1)) rfl rfl rfl rfl hb3
    try dsimp only [putL, setL, evL, getL]
    refine HL_cons rfl ?_
    refine o_pickF rfl hb3 ?_
    try dsimp only [putL, setL, evL, getL]
    refine HL_cons rfl ?_
    refine o_assign ?_
    try dsimp only [putL, setL, evL, getL]
    refine HL_nil ?_
    refine hK2 _ _ ?_
    refine HT_ret ?_
    obtain rfl := Option.some.inj (show some _ = some r from H)
    exact hQr _ _ [.bool false] ⟨rfl, trivial⟩ ⟨rfl, hH⟩
def spec_GoodRune.f (p0 : Int) : Option Bool := (spec_l1In.f p0 0 1114111).bind fun u3 => if u3 = true then ((spec_l1In.f p0 55296 57343).bind fun u5 => some (!u5)) else (some false)
def spec_GoodRune.post (sb s : St) (F0 : Fp) (r : Bool) : Value → St → Prop := fun v s' => v = .bool r ∧ Hp sb s F0 s' []
set_option maxRecDepth 100000 in
set_option maxHeartbeats 4000000 in
theorem spec_GoodRune.ok (sb s : St) (F0 : Fp) (p0 : Int) (hH : Hp sb s F0 s []) (r : Bool) (H : spec_GoodRune.f p0 = some r) : GCall Try.prog 135 #[.int .i64 p0] s (spec_GoodRune.post sb s F0 r) := by
  refine GCall_ofk [.tmp 2] [.int .i64 p0, undef, undef, undef, undef, undef, undef, undef, undef, undef] Try.func135 rfl rfl rfl ?_
  intro w Q hQr hQn hQp
  replace H := topE H
  unfold spec_GoodRune.f at H
  refine HT_seq_k ?_
  intro K1 hK1
  refine HT_region ?_
  refine HL_cons rfl ?_
  refine o_assign ?_
  try dsimp only [putL, setL, evL, getL]
  refine HL_nil ?_
  refine hK1 _ _ ?_
  refine HT_seq_k ?_
  intro K2 hK2
  refine HT_region ?_
  refine HL_cons rfl ?_
  refine o_move ?_
  try dsimp only [putL, setL, evL, getL]
  obtain ⟨u3, hu3, H⟩ := headE H
  refine HL_cons rfl ?_
  refine o_call (args := #[.int .i64 p0, .int .i64 0, .int .i64 1114111]) Try.func84 rfl rfl rfl (spec_l1In.ok sb s no p0 0 1114111 (Hp.own hH.bs) _ hu3) ?_
  rintro _ s3 ⟨rfl, hD⟩
  replace hH := hH.back0 hD (Up.refl _ _ _)
  clear hD
  dsimp only [addC, setC, rmC, selC, getC] at hH
  try dsimp only [putL, setL, evL, getL]
  refine HL_cons rfl ?_
  refine o_move ?_
  try dsimp only [putL, setL, evL, getL]
  rcases Bool.eq_false_or_eq_true u3 with hb4 | hb4
  · replace H := iteT hb4 H
    refine HL_want ?_ ?_
    · exact wantT (j := 2) (b := true) (t := 5) (c := u3) rfl rfl rfl rfl hb4
    refine o_move ?_
    try dsimp only [putL, setL, evL, getL]
    obtain ⟨u5, hu5, H⟩ := headE H
    refine HL_want ?_ ?_
    · exact wantT (j := 2) (b := true) (t := 5) (c := u3) rfl rfl rfl rfl hb4
    refine o_call (args := #[.int .i64 p0, .int .i64 55296, .int .i64 57343]) Try.func84 rfl rfl rfl (spec_l1In.ok sb s3 no p0 55296 57343 (Hp.own hH.bs) _ hu5) ?_
    rintro _ s5 ⟨rfl, hD⟩
    replace hH := hH.back0 hD (Up.refl _ _ _)
    clear hD
    dsimp only [addC, setC, rmC, selC, getC] at hH
    try dsimp only [putL, setL, evL, getL]
    refine HL_want ?_ ?_
    · exact wantT (j := 2) (b := true) (t := 5) (c := u3) rfl rfl rfl rfl hb4
    refine o_not rfl ?_
    try dsimp only [putL, setL, evL, getL]
    refine HL_cons rfl ?_
    refine o_pickT rfl hb4 ?_
    try dsimp only [putL, setL, evL, getL]
    refine HL_cons rfl ?_
    refine o_assign ?_
    try dsimp only [putL, setL, evL, getL]
    refine HL_nil ?_
    refine hK2 _ _ ?_
    refine HT_ret ?_
    obtain rfl := Option.some.inj (show some _ = some r from H)
    exact hQr _ _ [.bool (!u5)] ⟨rfl, trivial⟩ ⟨rfl, hH⟩
  · replace H := iteF hb4 H
    refine HL_skip ?_ ?_
    · exact wantF (j := 2) (b := true) (t := 5) (c := u3) rfl rfl rfl rfl hb4
    try dsimp only [putL, setL, evL, getL]
    refine HL_skip ?_ ?_
    · exact wantF (j := 2) (b := true) (t := 5) (c := u3) rfl rfl rfl rfl hb4
    try dsimp only [putL, setL, evL, getL]
    refine HL_skip ?_ ?_
    · exact wantF (j := 2) (b := true) (t := 5) (c := u3) rfl rfl rfl rfl hb4
    try dsimp only [putL, setL, evL, getL]
    refine HL_cons rfl ?_
    refine o_pickF rfl hb4 ?_
    try dsimp only [putL, setL, evL, getL]
    refine HL_cons rfl ?_
    refine o_assign ?_
    try dsimp only [putL, setL, evL, getL]
    refine HL_nil ?_
    refine hK2 _ _ ?_
    refine HT_ret ?_
    obtain rfl := Option.some.inj (show some _ = some r from H)
    exact hQr _ _ [.bool false] ⟨rfl, trivial⟩ ⟨rfl, hH⟩
def spec_l1AllRunes.l1 (p0 : List (Int)) : Nat → Int → Option (Lo Unit Bool)
  | 0, _ => none
  | kf + 1, x48 => if (decide (x48 < (p0.length : Int))) = true then ((rd? p0 x48).bind fun u66 => (spec_GoodRune.f u66).bind fun u68 => if (!u68) = true then ((some false).bind fun z => some (Lo.ret z)) else (spec_l1AllRunes.l1 p0 kf (IntKind.i64.wrap (x48 + 1)))) else (some (Lo.go ()))
def spec_l1AllRunes.f (p0 : List (Int)) : Option Bool := (spec_l1AllRunes.l1 p0 ((((p0.length : Int)) - (0)).toNat + 2) 0).bind fun (o : Lo Unit Bool) => match o with | .go () => (some (decide ((p0.length : Int) ≤ 1000))) | .ret z => some z
def spec_l1AllRunes.post (sb s : St) (F0 : Fp) (r : Bool) : Value → St → Prop := fun v s' => v = .bool r ∧ Hp sb s F0 s' []
set_option maxRecDepth 100000 in
set_option maxHeartbeats 4000000 in
theorem spec_l1AllRunes.ok (sb s : St) (F0 : Fp) (A0p : Option Addr) (c0p : Nat) (p0 : List (Int)) (HRp0 : Rd KI sb A0p c0p p0) (hH : Hp sb s F0 s []) (r : Bool) (H : spec_l1AllRunes.f p0 = some r) : GCall Try.prog 107 #[.slice A0p p0.length c0p] s (spec_l1AllRunes.post sb s F0 r) := by
  refine GCall_ofk [.tmp 2] [.slice A0p p0.length c0p, undef, undef, undef, undef, undef, undef, undef, undef, undef, undef, undef, undef, undef, undef, undef, undef, undef] Try.func107 rfl rfl rfl ?_
  intro w Q hQr hQn hQp
  replace H := topE H
  unfold spec_l1AllRunes.f at H
  refine HT_seq_k ?_
  intro K1 hK1
  refine HT_region ?_
  refine HL_cons rfl ?_
  refine o_assign ?_
  try dsimp only [putL, setL, evL, getL]
  refine HL_nil ?_
  refine hK1 _ _ ?_
  refine HT_seq_k ?_
  intro K2 hK2
  refine HT_seq_k ?_
  intro K3 hK3
  refine HT_region ?_
  refine HL_cons rfl ?_
  refine o_move ?_
  try dsimp only [putL, setL, evL, getL]
  refine HL_cons rfl ?_
  refine o_len rfl Try.underlying22 ?_
  try dsimp only [putL, setL, evL, getL]
  refine HL_cons rfl ?_
  refine o_move ?_
  try dsimp only [putL, setL, evL, getL]
  refine HL_nil ?_
  refine hK3 _ _ ?_
  refine joinH H fun G4 hG4 H => ?_
  refine HT_toK (fun l' s' => G4 (.go ()) = some r ∧ l' = [.slice A0p p0.length c0p, undef, getL l' 2, undef, getL l' 4, .slice A0p p0.length c0p, .int .i64 (p0.length : Int), getL l' 7, getL l' 8, getL l' 9, getL l' 10, getL l' 11, getL l' 12, getL l' 13, getL l' 14, undef, undef, undef] ∧ Hp sb s F0 s' []) ?_ ?_
  · intro K4 hK4
    refine HT_block ?_
    refine HT_loopK (fun kf l' s' => ∃ (x48 : Int), (spec_l1AllRunes.l1 p0 kf x48).bind G4 = some r ∧ l' = [.slice A0p p0.length c0p, undef, getL l' 2, undef, getL l' 4, .slice A0p p0.length c0p, .int .i64 (p0.length : Int), .int .i64 x48, getL l' 8, getL l' 9, getL l' 10, getL l' 11, getL l' 12, getL l' 13, getL l' 14, undef, undef, undef] ∧ Hp sb s F0 s' []) ((((p0.length : Int)) - (0)).toNat + 2) ⟨0, H, rfl, hH⟩ ?_
    rintro kf l' s60 ⟨x48, H, hl, hH⟩ K60 hK60
    generalize getL l' 2 = j2, getL l' 4 = j4, getL l' 8 = j8, getL l' 9 = j9, getL l' 10 = j10, getL l' 11 = j11, getL l' 12 = j12, getL l' 13 = j13, getL l' 14 = j14 at hl
    subst hl
    cases kf with
    | zero => simp [spec_l1AllRunes.l1] at H
    | succ kf =>
      rw [spec_l1AllRunes.l1] at H
      refine HT_seq_k ?_
      intro K61 hK61
      refine HT_region ?_
      refine HL_cons rfl ?_
      refine o_bin rfl rfl rfl ?_
      try dsimp only [putL, setL, evL, getL]
      refine HL_nil ?_
      refine hK61 _ _ ?_
      refine HT_seq_k ?_
      intro K62 hK62
      rcases Bool.eq_false_or_eq_true (decide (x48 < (p0.length : Int))) with hb63 | hb63
      · replace H := iteT hb63 H
        refine HT_true (congrArg Value.bool hb63) ?_
        refine HT_skip ?_
        refine hK62 _ _ ?_
        refine HT_seq_k ?_
        intro K64 hK64
        refine HT_block ?_
        refine HT_seq_k ?_
        intro K65 hK65
        refine HT_region ?_
        obtain ⟨u66, hu66, H⟩ := headE H
        obtain ⟨b66, o66, cs66, hr66, hh66, hel66⟩ := Rd.elb HRp0 hu66
        obtain rfl := hr66
        refine HL_cons rfl ?_
        refine hel66 s60 rfl rfl Try.underlying22 tI3 ?_
        try dsimp only [putL, setL, evL, getL]
        refine HL_cons rfl ?_
        refine o_load' rfl Try.underlying3 rfl ((hh66 hH.bs.mono) 0 _ rfl) ?_
        try dsimp only [putL, setL, evL, getL]
        refine HL_cons rfl ?_
        refine o_assign ?_
        try dsimp only [putL, setL, evL, getL]
        refine HL_nil ?_
        refine hK65 _ _ ?_
        refine HT_seq_k ?_
        intro K67 hK67
        refine HT_region ?_
        refine HL_cons rfl ?_
        refine o_move ?_
        try dsimp only [putL, setL, evL, getL]
        obtain ⟨u68, hu68, H⟩ := headE H
        refine HL_cons rfl ?_
        refine o_call (args := #[.int .i64 u66]) Try.func135 rfl rfl rfl (spec_GoodRune.ok sb s60 no u66 (Hp.own hH.bs) _ hu68) ?_
        rintro _ s68 ⟨rfl, hD⟩
        replace hH := hH.back0 hD (Up.refl _ _ _)
        clear hD
        dsimp only [addC, setC, rmC, selC, getC] at hH
        try dsimp only [putL, setL, evL, getL]
        refine HL_cons rfl ?_
        refine o_not rfl ?_
        try dsimp only [putL, setL, evL, getL]
        refine HL_nil ?_
        refine hK67 _ _ ?_
        rcases Bool.eq_false_or_eq_true (!u68) with hb69 | hb69
        · replace H := iteT hb69 H
          refine HT_true (congrArg Value.bool hb69) ?_
          refine HT_seq_k ?_
          intro K70 hK70
          refine HT_region ?_
          refine HL_cons rfl ?_
          refine o_assign ?_
          try dsimp only [putL, setL, evL, getL]
          refine HL_nil ?_
          refine hK70 _ _ ?_
          refine HT_ret ?_
          replace H := escH (fun z hz => hG4 _ hz) H
          obtain rfl := Option.some.inj (show some _ = some r from H)
          exact hQr _ _ [.bool false] ⟨rfl, trivial⟩ ⟨rfl, hH⟩
        · replace H := iteF hb69 H
          refine HT_false (congrArg Value.bool hb69) ?_
          refine HT_skip ?_
          refine hK64 _ _ ?_
          refine HT_region ?_
          refine HL_cons rfl ?_
          refine o_bin rfl rfl rfl ?_
          try dsimp only [putL, setL, evL, getL]
          refine HL_cons rfl ?_
          refine o_move ?_
          try dsimp only [putL, setL, evL, getL]
          refine HL_nil ?_
          exact hK60 _ _ ⟨kf, Nat.lt_succ_self kf, IntKind.i64.wrap (x48 + 1), H, rfl, hH⟩
      · replace H := iteF hb63 H
        refine HT_false (congrArg Value.bool hb63) ?_
        refine HT_exit ?_
        exact hK4 _ _ ⟨H, rfl, hH⟩
  · rintro l' s71 ⟨H, hl, hH⟩
    generalize getL l' 2 = j2, getL l' 4 = j4, getL l' 7 = j7, getL l' 8 = j8, getL l' 9 = j9, getL l' 10 = j10, getL l' 11 = j11, getL l' 12 = j12, getL l' 13 = j13, getL l' 14 = j14 at hl
    subst hl
    replace H := hG4 _ H
    try dsimp only at H
    refine hK2 _ _ ?_
    refine HT_seq_k ?_
    intro K72 hK72
    refine HT_region ?_
    refine HL_cons rfl ?_
    refine o_move ?_
    try dsimp only [putL, setL, evL, getL]
    refine HL_cons rfl ?_
    refine o_len rfl Try.underlying22 ?_
    try dsimp only [putL, setL, evL, getL]
    refine HL_cons rfl ?_
    refine o_bin rfl rfl rfl ?_
    try dsimp only [putL, setL, evL, getL]
    refine HL_cons rfl ?_
    refine o_assign ?_
    try dsimp only [putL, setL, evL, getL]
    refine HL_nil ?_
    refine hK72 _ _ ?_
    refine HT_ret ?_
    obtain rfl := Option.some.inj (show some _ = some r from H)
    exact hQr _ _ [.bool (decide ((p0.length : Int) ≤ 1000))] ⟨rfl, trivial⟩ ⟨rfl, hH⟩
def spec_l1All.l1 (p0 : List (Int)) (p1 : Int) (p2 : Int) : Nat → Int → Option (Lo Unit Bool)
  | 0, _ => none
  | kf + 1, x48 => if (decide (x48 < (p0.length : Int))) = true then ((rd? p0 x48).bind fun u66 => (spec_l1In.f u66 p1 p2).bind fun u68 => if (!u68) = true then ((some false).bind fun z => some (Lo.ret z)) else (spec_l1All.l1 p0 p1 p2 kf (IntKind.i64.wrap (x48 + 1)))) else (some (Lo.go ()))
def spec_l1All.f (p0 : List (Int)) (p1 : Int) (p2 : Int) : Option Bool := (spec_l1All.l1 p0 p1 p2 ((((p0.length : Int)) - (0)).toNat + 2) 0).bind fun (o : Lo Unit Bool) => match o with | .go () => (some true) | .ret z => some z
def spec_l1All.post (sb s : St) (F0 : Fp) (r : Bool) : Value → St → Prop := fun v s' => v = .bool r ∧ Hp sb s F0 s' []
set_option maxRecDepth 100000 in
set_option maxHeartbeats 4000000 in
theorem spec_l1All.ok (sb s : St) (F0 : Fp) (A0p : Option Addr) (c0p : Nat) (p0 : List (Int)) (p1 : Int) (p2 : Int) (HRp0 : Rd KI sb A0p c0p p0) (hH : Hp sb s F0 s []) (r : Bool) (H : spec_l1All.f p0 p1 p2 = some r) : GCall Try.prog 108 #[.slice A0p p0.length c0p, .int .i64 p1, .int .i64 p2] s (spec_l1All.post sb s F0 r) := by
  refine GCall_ofk [.tmp 6] [.slice A0p p0.length c0p, .int .i64 p1, .int .i64 p2, undef, undef, undef, undef, undef, undef, undef, undef, undef, undef, undef, undef, undef, undef, undef, undef, undef, undef] Try.func108 rfl rfl rfl ?_
  intro w Q hQr hQn hQp
  replace H := topE H
  unfold spec_l1All.f at H
  refine HT_seq_k ?_
  intro K1 hK1
  refine HT_region ?_
  refine HL_cons rfl ?_
  refine o_assign ?_
  try dsimp only [putL, setL, evL, getL]
  refine HL_nil ?_
  refine hK1 _ _ ?_
  refine HT_seq_k ?_
  intro K2 hK2
  refine HT_seq_k ?_
  intro K3 hK3
  refine HT_region ?_
  refine HL_cons rfl ?_
  refine o_move ?_
  try dsimp only [putL, setL, evL, getL]
  refine HL_cons rfl ?_
  refine o_len rfl Try.underlying22 ?_
  try dsimp only [putL, setL, evL, getL]
  refine HL_cons rfl ?_
  refine o_move ?_
  try dsimp only [putL, setL, evL, getL]
  refine HL_nil ?_
  refine hK3 _ _ ?_
  refine joinH H fun G4 hG4 H => ?_
  refine HT_toK (fun l' s' => G4 (.go ()) = some r ∧ l' = [.slice A0p p0.length c0p, .int .i64 p1, .int .i64 p2, undef, undef, undef, getL l' 6, undef, getL l' 8, .slice A0p p0.length c0p, .int .i64 (p0.length : Int), getL l' 11, getL l' 12, getL l' 13, getL l' 14, getL l' 15, getL l' 16, getL l' 17, getL l' 18, getL l' 19, getL l' 20] ∧ Hp sb s F0 s' []) ?_ ?_
  · intro K4 hK4
    refine HT_block ?_
    refine HT_loopK (fun kf l' s' => ∃ (x48 : Int), (spec_l1All.l1 p0 p1 p2 kf x48).bind G4 = some r ∧ l' = [.slice A0p p0.length c0p, .int .i64 p1, .int .i64 p2, undef, undef, undef, getL l' 6, undef, getL l' 8, .slice A0p p0.length c0p, .int .i64 (p0.length : Int), .int .i64 x48, getL l' 12, getL l' 13, getL l' 14, getL l' 15, getL l' 16, getL l' 17, getL l' 18, getL l' 19, getL l' 20] ∧ Hp sb s F0 s' []) ((((p0.length : Int)) - (0)).toNat + 2) ⟨0, H, rfl, hH⟩ ?_
    rintro kf l' s60 ⟨x48, H, hl, hH⟩ K60 hK60
    generalize getL l' 6 = j6, getL l' 8 = j8, getL l' 12 = j12, getL l' 13 = j13, getL l' 14 = j14, getL l' 15 = j15, getL l' 16 = j16, getL l' 17 = j17, getL l' 18 = j18, getL l' 19 = j19, getL l' 20 = j20 at hl
    subst hl
    cases kf with
    | zero => simp [spec_l1All.l1] at H
    | succ kf =>
      rw [spec_l1All.l1] at H
      refine HT_seq_k ?_
      intro K61 hK61
      refine HT_region ?_
      refine HL_cons rfl ?_
      refine o_bin rfl rfl rfl ?_
      try dsimp only [putL, setL, evL, getL]
      refine HL_nil ?_
      refine hK61 _ _ ?_
      refine HT_seq_k ?_
      intro K62 hK62
      rcases Bool.eq_false_or_eq_true (decide (x48 < (p0.length : Int))) with hb63 | hb63
      · replace H := iteT hb63 H
        refine HT_true (congrArg Value.bool hb63) ?_
        refine HT_skip ?_
        refine hK62 _ _ ?_
        refine HT_seq_k ?_
        intro K64 hK64
        refine HT_block ?_
        refine HT_seq_k ?_
        intro K65 hK65
        refine HT_region ?_
        obtain ⟨u66, hu66, H⟩ := headE H
        obtain ⟨b66, o66, cs66, hr66, hh66, hel66⟩ := Rd.elb HRp0 hu66
        obtain rfl := hr66
        refine HL_cons rfl ?_
        refine hel66 s60 rfl rfl Try.underlying22 tI3 ?_
        try dsimp only [putL, setL, evL, getL]
        refine HL_cons rfl ?_
        refine o_load' rfl Try.underlying3 rfl ((hh66 hH.bs.mono) 0 _ rfl) ?_
        try dsimp only [putL, setL, evL, getL]
        refine HL_cons rfl ?_
        refine o_assign ?_
        try dsimp only [putL, setL, evL, getL]
        refine HL_nil ?_
        refine hK65 _ _ ?_
        refine HT_seq_k ?_
        intro K67 hK67
        refine HT_region ?_
        refine HL_cons rfl ?_
        refine o_move ?_
        try dsimp only [putL, setL, evL, getL]
        refine HL_cons rfl ?_
        refine o_move ?_
        try dsimp only [putL, setL, evL, getL]
        refine HL_cons rfl ?_
        refine o_move ?_
        try dsimp only [putL, setL, evL, getL]
        obtain ⟨u68, hu68, H⟩ := headE H
        refine HL_cons rfl ?_
        refine o_call (args := #[.int .i64 u66, .int .i64 p1, .int .i64 p2]) Try.func84 rfl rfl rfl (spec_l1In.ok sb s60 no u66 p1 p2 (Hp.own hH.bs) _ hu68) ?_
        rintro _ s68 ⟨rfl, hD⟩
        replace hH := hH.back0 hD (Up.refl _ _ _)
        clear hD
        dsimp only [addC, setC, rmC, selC, getC] at hH
        try dsimp only [putL, setL, evL, getL]
        refine HL_cons rfl ?_
        refine o_not rfl ?_
        try dsimp only [putL, setL, evL, getL]
        refine HL_nil ?_
        refine hK67 _ _ ?_
        rcases Bool.eq_false_or_eq_true (!u68) with hb69 | hb69
        · replace H := iteT hb69 H
          refine HT_true (congrArg Value.bool hb69) ?_
          refine HT_seq_k ?_
          intro K70 hK70
          refine HT_region ?_
          refine HL_cons rfl ?_
          refine o_assign ?_
          try dsimp only [putL, setL, evL, getL]
          refine HL_nil ?_
          refine hK70 _ _ ?_
          refine HT_ret ?_
          replace H := escH (fun z hz => hG4 _ hz) H
          obtain rfl := Option.some.inj (show some _ = some r from H)
          exact hQr _ _ [.bool false] ⟨rfl, trivial⟩ ⟨rfl, hH⟩
        · replace H := iteF hb69 H
          refine HT_false (congrArg Value.bool hb69) ?_
          refine HT_skip ?_
          refine hK64 _ _ ?_
          refine HT_region ?_
          refine HL_cons rfl ?_
          refine o_bin rfl rfl rfl ?_
          try dsimp only [putL, setL, evL, getL]
          refine HL_cons rfl ?_
          refine o_move ?_
          try dsimp only [putL, setL, evL, getL]
          refine HL_nil ?_
          exact hK60 _ _ ⟨kf, Nat.lt_succ_self kf, IntKind.i64.wrap (x48 + 1), H, rfl, hH⟩
      · replace H := iteF hb63 H
        refine HT_false (congrArg Value.bool hb63) ?_
        refine HT_exit ?_
        exact hK4 _ _ ⟨H, rfl, hH⟩
  · rintro l' s71 ⟨H, hl, hH⟩
    generalize getL l' 6 = j6, getL l' 8 = j8, getL l' 11 = j11, getL l' 12 = j12, getL l' 13 = j13, getL l' 14 = j14, getL l' 15 = j15, getL l' 16 = j16, getL l' 17 = j17, getL l' 18 = j18, getL l' 19 = j19, getL l' 20 = j20 at hl
    subst hl
    replace H := hG4 _ H
    try dsimp only at H
    refine hK2 _ _ ?_
    refine HT_seq_k ?_
    intro K72 hK72
    refine HT_region ?_
    refine HL_cons rfl ?_
    refine o_assign ?_
    try dsimp only [putL, setL, evL, getL]
    refine HL_nil ?_
    refine hK72 _ _ ?_
    refine HT_ret ?_
    obtain rfl := Option.some.inj (show some _ = some r from H)
    exact hQr _ _ [.bool true] ⟨rfl, trivial⟩ ⟨rfl, hH⟩
def spec_GoodScreen.f (p0_0 : Int) (p0_1 : Int) (p0_2 : List (Int)) (p0_3 : Int) (p0_4 : Int) : Option Bool := ((spec_l1In.f p0_0 1 20).bind fun u36 => if (!u36) = true then (some true) else ((spec_l1In.f p0_1 1 8).bind fun u38 => if (!u38) = true then (some true) else ((spec_l1In.f p0_3 0 p0_0).bind fun u40 => if (!u40) = true then (some true) else ((spec_l1In.f p0_4 0 (IntKind.i64.wrap (p0_1 - 1))).bind fun u42 => if (!u42) = true then (some true) else (some ((p0_2.length : Int) != (IntKind.i64.wrap (p0_0 * p0_1)))))))).bind fun (o : Bool) => match o with | x35 => (if x35 = true then (some false) else ((spec_l1AllRunes.f p0_2).bind fun u48 => if u48 = true then ((spec_l1All.f p0_2 32 1114111).bind fun u50 => some u50) else (some false)))
def spec_GoodScreen.post (sb s : St) (F0 : Fp) (r : Bool) : Value → St → Prop := fun v s' => v = .bool r ∧ Hp sb s F0 s' []
set_option maxRecDepth 100000 in
set_option maxHeartbeats 4000000 in
theorem spec_GoodScreen.ok (sb s : St) (F0 : Fp) (p0_0 : Int) (p0_1 : Int) (A0_2p : Option Addr) (c0_2p : Nat) (p0_2 : List (Int)) (p0_3 : Int) (p0_4 : Int) (HRp0_2 : Rd KI sb A0_2p c0_2p p0_2) (hH : Hp sb s F0 s []) (r : Bool) (H : spec_GoodScreen.f p0_0 p0_1 p0_2 p0_3 p0_4 = some r) : GCall Try.prog 101 #[.agg #[.int .i64 p0_0, .int .i64 p0_1, .slice A0_2p p0_2.length c0_2p, .int .i64 p0_3, .int .i64 p0_4]] s (spec_GoodScreen.post sb s F0 r) := by
  refine GCall_ofk [.tmp 2] [.agg #[.int .i64 p0_0, .int .i64 p0_1, .slice A0_2p p0_2.length c0_2p, .int .i64 p0_3, .int .i64 p0_4], undef, undef, undef, undef, undef, undef, undef, undef, undef, undef, undef, undef, undef, undef, undef, undef, undef, undef, undef, undef, undef, undef, undef, undef, undef, undef, undef, undef, undef, undef, undef, undef, undef, undef, undef, undef, undef, undef, undef, undef, undef, undef, undef, undef, undef, undef, undef, undef] Try.func101 rfl rfl rfl ?_
  intro w Q hQr hQn hQp
  replace H := topE H
  unfold spec_GoodScreen.f at H
  refine HT_seq_k ?_
  intro K1 hK1
  refine HT_region ?_
  refine HL_cons rfl ?_
  refine o_boxH hH rfl ?_
  intro b2 s2 hH' hG
  replace hH : Hp sb s F0 s2 [Ck.ov b2 [.int .i64 p0_0, .int .i64 p0_1, .slice A0_2p p0_2.length c0_2p, .int .i64 p0_3, .int .i64 p0_4] 55] := hH'
  clear hH' hG
  try dsimp only [putL, setL, evL, getL]
  refine HL_cons rfl ?_
  refine o_assign ?_
  try dsimp only [putL, setL, evL, getL]
  refine HL_nil ?_
  refine hK1 _ _ ?_
  refine HT_seq_k ?_
  intro K25 hK25
  refine joinH H fun G26 hG26 H => ?_
  refine HT_joinK (fun l' s' => ∃ (x35 : Bool), G26 x35 = some r ∧ l' = [.agg #[.int .i64 p0_0, .int .i64 p0_1, .slice A0_2p p0_2.length c0_2p, .int .i64 p0_3, .int .i64 p0_4], .pointer (some ⟨b2, 0, none⟩), .bool false, getL l' 3, getL l' 4, getL l' 5, getL l' 6, getL l' 7, getL l' 8, getL l' 9, getL l' 10, getL l' 11, getL l' 12, getL l' 13, getL l' 14, getL l' 15, getL l' 16, getL l' 17, getL l' 18, getL l' 19, getL l' 20, getL l' 21, getL l' 22, getL l' 23, getL l' 24, getL l' 25, getL l' 26, getL l' 27, getL l' 28, getL l' 29, getL l' 30, getL l' 31, getL l' 32, getL l' 33, getL l' 34, getL l' 35, getL l' 36, getL l' 37, getL l' 38, getL l' 39, .bool x35, undef, undef, undef, undef, undef, undef, undef, undef] ∧ Hp sb s F0 s' [Ck.ov b2 [.int .i64 p0_0, .int .i64 p0_1, .slice A0_2p p0_2.length c0_2p, .int .i64 p0_3, .int .i64 p0_4] 55]) ?_ ?_
  · intro K26 hK26
    refine HT_region ?_
    refine HL_cons rfl ?_
    refine o_faddr' (ft := 3) (off := 0) rfl Try.underlying55 rfl tI3 (by decide) ?_
    try dsimp only [putL, setL, evL, getL]
    refine HL_cons rfl ?_
    refine o_load' rfl Try.underlying3 rfl (hH.hasv 0 rfl rfl) ?_
    try dsimp only [putL, setL, evL, getL]
    obtain ⟨u36, hu36, H⟩ := headE H
    refine HL_cons rfl ?_
    refine o_call (args := #[.int .i64 p0_0, .int .i64 1, .int .i64 20]) Try.func84 rfl rfl rfl (spec_l1In.ok sb s2 no p0_0 1 20 (Hp.own hH.bs) _ hu36) ?_
    rintro _ s36 ⟨rfl, hD⟩
    replace hH := hH.back0 hD (Up.refl _ _ _)
    clear hD
    dsimp only [addC, setC, rmC, selC, getC] at hH
    try dsimp only [putL, setL, evL, getL]
    refine HL_cons rfl ?_
    refine o_not rfl ?_
    try dsimp only [putL, setL, evL, getL]
    refine HL_cons rfl ?_
    refine o_move ?_
    try dsimp only [putL, setL, evL, getL]
    rcases Bool.eq_false_or_eq_true (!u36) with hb37 | hb37
    · replace H := iteT hb37 H
      refine HL_skip ?_ ?_
      · exact wantF (j := 4) (b := false) (t := 7) (c := !u36) rfl rfl rfl rfl hb37
      try dsimp only [putL, setL, evL, getL]
      refine HL_skip ?_ ?_
      · exact wantF (j := 4) (b := false) (t := 7) (c := !u36) rfl rfl rfl rfl hb37
      try dsimp only [putL, setL, evL, getL]
      refine HL_skip ?_ ?_
      · exact wantF (j := 4) (b := false) (t := 7) (c := !u36) rfl rfl rfl rfl hb37
      try dsimp only [putL, setL, evL, getL]
      refine HL_skip ?_ ?_
      · exact wantF (j := 4) (b := false) (t := 7) (c := !u36) rfl rfl rfl rfl hb37
      try dsimp only [putL, setL, evL, getL]
      refine HL_cons rfl ?_
      refine o_pickT rfl hb37 ?_
      try dsimp only [putL, setL, evL, getL]
      refine HL_cons rfl ?_
      refine o_move ?_
      try dsimp only [putL, setL, evL, getL]
      refine HL_skip ?_ ?_
      · exact wantF (j := 10) (b := false) (t := 13) (c := true) rfl rfl rfl rfl rfl
      try dsimp only [putL, setL, evL, getL]
      refine HL_skip ?_ ?_
      · exact wantF (j := 10) (b := false) (t := 13) (c := true) rfl rfl rfl rfl rfl
      try dsimp only [putL, setL, evL, getL]
      refine HL_skip ?_ ?_
      · exact wantF (j := 10) (b := false) (t := 13) (c := true) rfl rfl rfl rfl rfl
      try dsimp only [putL, setL, evL, getL]
      refine HL_skip ?_ ?_
      · exact wantF (j := 10) (b := false) (t := 13) (c := true) rfl rfl rfl rfl rfl
      try dsimp only [putL, setL, evL, getL]
      refine HL_skip ?_ ?_
      · exact wantF (j := 10) (b := false) (t := 13) (c := true) rfl rfl rfl rfl rfl
      try dsimp only [putL, setL, evL, getL]
      refine HL_skip ?_ ?_
      · exact wantF (j := 10) (b := false) (t := 13) (c := true) rfl rfl rfl rfl rfl
      try dsimp only [putL, setL, evL, getL]
      refine HL_cons rfl ?_
      refine o_pickT rfl rfl ?_
      try dsimp only [putL, setL, evL, getL]
      refine HL_cons rfl ?_
      refine o_move ?_
      try dsimp only [putL, setL, evL, getL]
      refine HL_skip ?_ ?_
      · exact wantF (j := 18) (b := false) (t := 21) (c := true) rfl rfl rfl rfl rfl
      try dsimp only [putL, setL, evL, getL]
      refine HL_skip ?_ ?_
      · exact wantF (j := 18) (b := false) (t := 21) (c := true) rfl rfl rfl rfl rfl
      try dsimp only [putL, setL, evL, getL]
      refine HL_skip ?_ ?_
      · exact wantF (j := 18) (b := false) (t := 21) (c := true) rfl rfl rfl rfl rfl
      try dsimp only [putL, setL, evL, getL]
      refine HL_skip ?_ ?_
      · exact wantF (j := 18) (b := false) (t := 21) (c := true) rfl rfl rfl rfl rfl
      try dsimp only [putL, setL, evL, getL]
      refine HL_skip ?_ ?_
      · exact wantF (j := 18) (b := false) (t := 21) (c := true) rfl rfl rfl rfl rfl
      try dsimp only [putL, setL, evL, getL]
      refine HL_skip ?_ ?_
      · exact wantF (j := 18) (b := false) (t := 21) (c := true) rfl rfl rfl rfl rfl
      try dsimp only [putL, setL, evL, getL]
      refine HL_skip ?_ ?_
      · exact wantF (j := 18) (b := false) (t := 21) (c := true) rfl rfl rfl rfl rfl
      try dsimp only [putL, setL, evL, getL]
      refine HL_cons rfl ?_
      refine o_pickT rfl rfl ?_
      try dsimp only [putL, setL, evL, getL]
      refine HL_cons rfl ?_
      refine o_move ?_
      try dsimp only [putL, setL, evL, getL]
      refine HL_skip ?_ ?_
      · exact wantF (j := 27) (b := false) (t := 30) (c := true) rfl rfl rfl rfl rfl
      try dsimp only [putL, setL, evL, getL]
      refine HL_skip ?_ ?_
      · exact wantF (j := 27) (b := false) (t := 30) (c := true) rfl rfl rfl rfl rfl
      try dsimp only [putL, setL, evL, getL]
      refine HL_skip ?_ ?_
      · exact wantF (j := 27) (b := false) (t := 30) (c := true) rfl rfl rfl rfl rfl
      try dsimp only [putL, setL, evL, getL]
      refine HL_skip ?_ ?_
      · exact wantF (j := 27) (b := false) (t := 30) (c := true) rfl rfl rfl rfl rfl
      try dsimp only [putL, setL, evL, getL]
      refine HL_skip ?_ ?_
      · exact wantF (j := 27) (b := false) (t := 30) (c := true) rfl rfl rfl rfl rfl
      try dsimp only [putL, setL, evL, getL]
      refine HL_skip ?_ ?_
      · exact wantF (j := 27) (b := false) (t := 30) (c := true) rfl rfl rfl rfl rfl
      try dsimp only [putL, setL, evL, getL]
      refine HL_skip ?_ ?_
      · exact wantF (j := 27) (b := false) (t := 30) (c := true) rfl rfl rfl rfl rfl
      try dsimp only [putL, setL, evL, getL]
      refine HL_skip ?_ ?_
      · exact wantF (j := 27) (b := false) (t := 30) (c := true) rfl rfl rfl rfl rfl
      try dsimp only [putL, setL, evL, getL]
      refine HL_skip ?_ ?_
      · exact wantF (j := 27) (b := false) (t := 30) (c := true) rfl rfl rfl rfl rfl
      try dsimp only [putL, setL, evL, getL]
      refine HL_cons rfl ?_
      refine o_pickT rfl rfl ?_
      try dsimp only [putL, setL, evL, getL]
      refine HL_nil ?_
      exact hK26 _ _ ⟨true, H, rfl, hH⟩
    · replace H := iteF hb37 H
      refine HL_want ?_ ?_
      · exact wantT (j := 4) (b := false) (t := 7) (c := !u36) rfl rfl rfl rfl hb37
      refine o_faddr' (ft := 3) (off := 1) rfl Try.underlying55 rfl tI3 (by decide) ?_
      try dsimp only [putL, setL, evL, getL]
      refine HL_want ?_ ?_
      · exact wantT (j := 4) (b := false) (t := 7) (c := !u36) rfl rfl rfl rfl hb37
      refine o_load' rfl Try.underlying3 rfl (hH.hasv 0 rfl rfl) ?_
      try dsimp only [putL, setL, evL, getL]
      obtain ⟨u38, hu38, H⟩ := headE H
      refine HL_want ?_ ?_
      · exact wantT (j := 4) (b := false) (t := 7) (c := !u36) rfl rfl rfl rfl hb37
      refine o_call (args := #[.int .i64 p0_1, .int .i64 1, .int .i64 8]) Try.func84 rfl rfl rfl (spec_l1In.ok sb s36 no p0_1 1 8 (Hp.own hH.bs) _ hu38) ?_
      rintro _ s38 ⟨rfl, hD⟩
      replace hH := hH.back0 hD (Up.refl _ _ _)
      clear hD
      dsimp only [addC, setC, rmC, selC, getC] at hH
      try dsimp only [putL, setL, evL, getL]
      refine HL_want ?_ ?_
      · exact wantT (j := 4) (b := false) (t := 7) (c := !u36) rfl rfl rfl rfl hb37
      refine o_not rfl ?_
      try dsimp only [putL, setL, evL, getL]
      refine HL_cons rfl ?_
      refine o_pickF rfl hb37 ?_
      try dsimp only [putL, setL, evL, getL]
      refine HL_cons rfl ?_
      refine o_move ?_
      try dsimp only [putL, setL, evL, getL]
      rcases Bool.eq_false_or_eq_true (!u38) with hb39 | hb39
      · replace H := iteT hb39 H
        refine HL_skip ?_ ?_
        · exact wantF (j := 10) (b := false) (t := 13) (c := !u38) rfl rfl rfl rfl hb39
        try dsimp only [putL, setL, evL, getL]
        refine HL_skip ?_ ?_
        · exact wantF (j := 10) (b := false) (t := 13) (c := !u38) rfl rfl rfl rfl hb39
        try dsimp only [putL, setL, evL, getL]
        refine HL_skip ?_ ?_
        · exact wantF (j := 10) (b := false) (t := 13) (c := !u38) rfl rfl rfl rfl hb39
        try dsimp only [putL, setL, evL, getL]
        refine HL_skip ?_ ?_
        · exact wantF (j := 10) (b := false) (t := 13) (c := !u38) rfl rfl rfl rfl hb39
        try dsimp only [putL, setL, evL, getL]
        refine HL_skip ?_ ?_
        · exact wantF (j := 10) (b := false) (t := 13) (c := !u38) rfl rfl rfl rfl hb39
        try dsimp only [putL, setL, evL, getL]
        refine HL_skip ?_ ?_
        · exact wantF (j := 10) (b := false) (t := 13) (c := !u38) rfl rfl rfl rfl hb39
        try dsimp only [putL, setL, evL, getL]
        refine HL_cons rfl ?_
        refine o_pickT rfl hb39 ?_
        try dsimp only [putL, setL, evL, getL]
        refine HL_cons rfl ?_
        refine o_move ?_
        try dsimp only [putL, setL, evL, getL]
        refine HL_skip ?_ ?_
        · exact wantF (j := 18) (b := false) (t := 21) (c := true) rfl rfl rfl rfl rfl
        try dsimp only [putL, setL, evL, getL]
        refine HL_skip ?_ ?_
        · exact wantF (j := 18) (b := false) (t := 21) (c := true) rfl rfl rfl rfl rfl
        try dsimp only [putL, setL, evL, getL]
        refine HL_skip ?_ ?_
        · exact wantF (j := 18) (b := false) (t := 21) (c := true) rfl rfl rfl rfl rfl
        try dsimp only [putL, setL, evL, getL]
        refine HL_skip ?_ ?_
        · exact wantF (j := 18) (b := false) (t := 21) (c := true) rfl rfl rfl rfl rfl
        try dsimp only [putL, setL, evL, getL]
        refine HL_skip ?_ ?_
        · exact wantF (j := 18) (b := false) (t := 21) (c := true) rfl rfl rfl rfl rfl
        try dsimp only [putL, setL, evL, getL]
        refine HL_skip ?_ ?_
        · exact wantF (j := 18) (b := false) (t := 21) (c := true) rfl rfl rfl rfl rfl
        try dsimp only [putL, setL, evL, getL]
        refine HL_skip ?_ ?_
        · exact wantF (j := 18) (b := false) (t := 21) (c := true) rfl rfl rfl rfl rfl
        try dsimp only [putL, setL, evL, getL]
        refine HL_cons rfl ?_
        refine o_pickT rfl rfl ?_
        try dsimp only [putL, setL, evL, getL]
        refine HL_cons rfl ?_
        refine o_move ?_
        try dsimp only [putL, setL, evL, getL]
        refine HL_skip ?_ ?_
        · exact wantF (j := 27) (b := false) (t := 30) (c := true) rfl rfl rfl rfl rfl
        try dsimp only [putL, setL, evL, getL]
        refine HL_skip ?_ ?_
        · exact wantF (j := 27) (b := false) (t := 30) (c := true) rfl rfl rfl rfl rfl
        try dsimp only [putL, setL, evL, getL]
        refine HL_skip ?_ ?_
        · exact wantF (j := 27) (b := false) (t := 30) (c := true) rfl rfl rfl rfl rfl
        try dsimp only [putL, setL, evL, getL]
        refine HL_skip ?_ ?_
        · exact wantF (j := 27) (b := false) (t := 30) (c := true) rfl rfl rfl rfl rfl
        try dsimp only [putL, setL, evL, getL]
        refine HL_skip ?_ ?_
        · exact wantF (j := 27) (b := false) (t := 30) (c := true) rfl rfl rfl rfl rfl
        try dsimp only [putL, setL, evL, getL]
        refine HL_skip ?_ ?_
        · exact wantF (j := 27) (b := false) (t := 30) (c := true) rfl rfl rfl rfl rfl
        try dsimp only [putL, setL, evL, getL]
        refine HL_skip ?_ ?_
        · exact wantF (j := 27) (b := false) (t := 30) (c := true) rfl rfl rfl rfl rfl
        try dsimp only [putL, setL, evL, getL]
        refine HL_skip ?_ ?_
        · exact wantF (j := 27) (b := false) (t := 30) (c := true) rfl rfl rfl rfl rfl
        try dsimp only [putL, setL, evL, getL]
        refine HL_skip ?_ ?_
        · exact wantF (j := 27) (b := false) (t := 30) (c := true) rfl rfl rfl rfl rfl
        try dsimp only [putL, setL, evL, getL]
        refine HL_cons rfl ?_
        refine o_pickT rfl rfl ?_
        try dsimp only [putL, setL, evL, getL]
        refine HL_nil ?_
        exact hK26 _ _ ⟨true, H, rfl, hH⟩
      · replace H := iteF hb39 H
        refine HL_want ?_ ?_
        · exact wantT (j := 10) (b := false) (t := 13) (c := !u38) rfl rfl rfl rfl hb39
        refine o_faddr' (ft := 3) (off := 3) rfl Try.underlying55 rfl tI3 (by decide) ?_
        try dsimp only [putL, setL, evL, getL]
        refine HL_want ?_ ?_
        · exact wantT (j := 10) (b := false) (t := 13) (c := !u38) rfl rfl rfl rfl hb39
        refine o_load' rfl Try.underlying3 rfl (hH.hasv 0 rfl rfl) ?_
        try dsimp only [putL, setL, evL, getL]
        refine HL_want ?_ ?_
        · exact wantT (j := 10) (b := false) (t := 13) (c := !u38) rfl rfl rfl rfl hb39
        refine o_faddr' (ft := 3) (off := 0) rfl Try.underlying55 rfl tI3 (by decide) ?_
        try dsimp only [putL, setL, evL, getL]
        refine HL_want ?_ ?_
        · exact wantT (j := 10) (b := false) (t := 13) (c := !u38) rfl rfl rfl rfl hb39
        refine o_load' rfl Try.underlying3 rfl (hH.hasv 0 rfl rfl) ?_
        try dsimp only [putL, setL, evL, getL]
        obtain ⟨u40, hu40, H⟩ := headE H
        refine HL_want ?_ ?_
        · exact wantT (j := 10) (b := false) (t := 13) (c := !u38) rfl rfl rfl rfl hb39
        refine o_call (args := #[.int .i64 p0_3, .int .i64 0, .int .i64 p0_0]) Try.func84 rfl rfl rfl (spec_l1In.ok sb s38 no p0_3 0 p0_0 (Hp.own hH.bs) _ hu40) ?_
        rintro _ s40 ⟨rfl, hD⟩
        replace hH := hH.back0 hD (Up.refl _ _ _)
        clear hD
        dsimp only [addC, setC, rmC, selC, getC] at hH
        try dsimp only [putL, setL, evL, getL]
        refine HL_want ?_ ?_
        · exact wantT (j := 10) (b := false) (t := 13) (c := !u38) rfl rfl rfl rfl hb39
        refine o_not rfl ?_
        try dsimp only [putL, setL, evL, getL]
        refine HL_cons rfl ?_
        refine o_pickF rfl hb39 ?_
        try dsimp only [putL, setL, evL, getL]
        refine HL_cons rfl ?_
        refine o_move ?_
        try dsimp only [putL, setL, evL, getL]
        rcases Bool.eq_false_or_eq_true (!u40) with hb41 | hb41
        · replace H := iteT hb41 H
          refine HL_skip ?_ ?_
          · exact wantF (j := 18) (b := false) (t := 21) (c := !u40) rfl rfl rfl rfl hb41
          try dsimp only [putL, setL, evL, getL]
          refine HL_skip ?_ ?_
          · exact wantF (j := 18) (b := false) (t := 21) (c := !u40) rfl rfl rfl rfl hb41
          try dsimp only [putL, setL, evL, getL]
          refine HL_skip ?_ ?_
          · exact wantF (j := 18) (b := false) (t := 21) (c := !u40) rfl rfl rfl rfl hb41
          try dsimp only [putL, setL, evL, getL]
          refine HL_skip ?_ ?_
          · exact wantF (j := 18) (b := false) (t := 21) (c := !u40) rfl rfl rfl rfl hb41
          try dsimp only [putL, setL, evL, getL]
          refine HL_skip ?_ ?_
          · exact wantF (j := 18) (b := false) (t := 21) (c := !u40) rfl rfl rfl rfl hb41
          try dsimp only [putL, setL, evL, getL]
          refine HL_skip ?_ ?_
          · exact wantF (j := 18) (b := false) (t := 21) (c := !u40) rfl rfl rfl rfl hb41
          try dsimp only [putL, setL, evL, getL]
          refine HL_skip ?_ ?_
          · exact wantF (j := 18) (b := false) (t := 21) (c := !u40) rfl rfl rfl rfl hb41
          try dsimp only [putL, setL, evL, getL]
          refine HL_cons rfl ?_
          refine o_pickT rfl hb41 ?_
          try dsimp only [putL, setL, evL, getL]
          refine HL_cons rfl ?_
          refine o_move ?_
          try dsimp only [putL, setL, evL, getL]
          refine HL_skip ?_ ?_
          · exact wantF (j := 27) (b := false) (t := 30) (c := true) rfl rfl rfl rfl rfl
          try dsimp only [putL, setL, evL, getL]
          refine HL_skip ?_ ?_
          · exact wantF (j := 27) (b := false) (t := 30) (c := true) rfl rfl rfl rfl rfl
          try dsimp only [putL, setL, evL, getL]
          refine HL_skip ?_ ?_
          · exact wantF (j := 27) (b := false) (t := 30) (c := true) rfl rfl rfl rfl rfl
          try dsimp only [putL, setL, evL, getL]
          refine HL_skip ?_ ?_
          · exact wantF (j := 27) (b := false) (t := 30) (c := true) rfl rfl rfl rfl rfl
          try dsimp only [putL, setL, evL, getL]
          refine HL_skip ?_ ?_
          · exact wantF (j := 27) (b := false) (t := 30) (c := true) rfl rfl rfl rfl rfl
          try dsimp only [putL, setL, evL, getL]
          refine HL_skip ?_ ?_
          · exact wantF (j := 27) (b := false) (t := 30) (c := true) rfl rfl rfl rfl rfl
          try dsimp only [putL, setL, evL, getL]
          refine HL_skip ?_ ?_
          · exact wantF (j := 27) (b := false) (t := 30) (c := true) rfl rfl rfl rfl rfl
          try dsimp only [putL, setL, evL, getL]
          refine HL_skip ?_ ?_
          · exact wantF (j := 27) (b := false) (t := 30) (c := true) rfl rfl rfl rfl rfl
          try dsimp only [putL, setL, evL, getL]
          refine HL_skip ?_ ?_
          · exact wantF (j := 27) (b := false) (t := 30) (c := true) rfl rfl rfl rfl rfl
          try dsimp only [putL, setL, evL, getL]
          refine HL_cons rfl ?_
          refine o_pickT rfl rfl ?_
          try dsimp only [putL, setL, evL, getL]
          refine HL_nil ?_
          exact hK26 _ _ ⟨true, H, rfl, hH⟩
        · replace H := iteF hb41 H
          refine HL_want ?_ ?_
          · exact wantT (j := 18) (b := false) (t := 21) (c := !u40) rfl rfl rfl rfl hb41
          refine o_faddr' (ft := 3) (off := 4) rfl Try.underlying55 rfl tI3 (by decide) ?_
          try dsimp only [putL, setL, evL, getL]
          refine HL_want ?_ ?_
          · exact wantT (j := 18) (b := false) (t := 21) (c := !u40) rfl rfl rfl rfl hb41
          refine o_load' rfl Try.underlying3 rfl (hH.hasv 0 rfl rfl) ?_
          try dsimp only [putL, setL, evL, getL]
          refine HL_want ?_ ?_
          · exact wantT (j := 18) (b := false) (t := 21) (c := !u40) rfl rfl rfl rfl hb41
          refine o_faddr' (ft := 3) (off := 1) rfl Try.underlying55 rfl tI3 (by decide) ?_
          try dsimp only [putL, setL, evL, getL]
          refine HL_want ?_ ?_
          · exact wantT (j := 18) (b := false) (t := 21) (c := !u40) rfl rfl rfl rfl hb41
          refine o_load' rfl Try.underlying3 rfl (hH.hasv 0 rfl rfl) ?_
          try dsimp only [putL, setL, evL, getL]
          refine HL_want ?_ ?_
          · exact wantT (j := 18) (b := false) (t := 21) (c := !u40) rfl rfl rfl rfl hb41
          refine o_bin rfl rfl rfl ?_
          try dsimp only [putL, setL, evL, getL]
          obtain ⟨u42, hu42, H⟩ := headE H
          refine HL_want ?_ ?_
          · exact wantT (j := 18) (b := false) (t := 21) (c := !u40) rfl rfl rfl rfl hb41
          refine o_call (args := #[.int .i64 p0_4, .int .i64 0, .int .i64 (IntKind.i64.wrap (p0_1 - 1))]) Try.func84 rfl rfl rfl (spec_l1In.ok sb s40 no p0_4 0 (IntKind.i64.wrap (p0_1 - 1)) (Hp.own hH.bs) _ hu42) ?_
          rintro _ s42 ⟨rfl, hD⟩
          replace hH := hH.back0 hD (Up.refl _ _ _)
          clear hD
          dsimp only [addC, setC, rmC, selC, getC] at hH
          try dsimp only [putL, setL, evL, getL]
          refine HL_want ?_ ?_
          · exact wantT (j := 18) (b := false) (t := 21) (c := !u40) rfl rfl rfl rfl hb41
          refine o_not rfl ?_
          try dsimp only [putL, setL, evL, getL]
          refine HL_cons rfl ?_
          refine o_pickF rfl hb41 ?_
          try dsimp only [putL, setL, evL, getL]
          refine HL_cons rfl ?_
          refine o_move ?_
          try dsimp only [putL, setL, evL, getL]
          rcases Bool.eq_false_or_eq_true (!u42) with hb43 | hb43
          · replace H := iteT hb43 H
            refine HL_skip ?_ ?_
            · exact wantF (j := 27) (b := false) (t := 30) (c := !u42) rfl rfl rfl rfl hb43
            try dsimp only [putL, setL, evL, getL]
            refine HL_skip ?_ ?_
            · exact wantF (j := 27) (b := false) (t := 30) (c := !u42) rfl rfl rfl rfl hb43
            try dsimp only [putL, setL, evL, getL]
            refine HL_skip ?_ ?_
            · exact wantF (j := 27) (b := false) (t := 30) (c := !u42) rfl rfl rfl rfl hb43
            try dsimp only [putL, setL, evL, getL]
            refine HL_skip ?_ ?_
            · exact wantF (j := 27) (b := false) (t := 30) (c := !u42) rfl rfl rfl rfl hb43
            try dsimp only [putL, setL, evL, getL]
            refine HL_skip ?_ ?_
            · exact wantF (j := 27) (b := false) (t := 30) (c := !u42) rfl rfl rfl rfl hb43
            try dsimp only [putL, setL, evL, getL]
            refine HL_skip ?_ ?_
            · exact wantF (j := 27) (b := false) (t := 30) (c := !u42) rfl rfl rfl rfl hb43
            try dsimp only [putL, setL, evL, getL]
            refine HL_skip ?_ ?_
            · exact wantF (j := 27) (b := false) (t := 30) (c := !u42) rfl rfl rfl rfl hb43
            try dsimp only [putL, setL, evL, getL]
            refine HL_skip ?_ ?_
            · exact wantF (j := 27) (b := false) (t := 30) (c := !u42) rfl rfl rfl rfl hb43
            try dsimp only [putL, setL, evL, getL]
            refine HL_skip ?_ ?_
            · exact wantF (j := 27) (b := false) (t := 30) (c := !u42) rfl rfl rfl rfl hb43
            try dsimp only [putL, setL, evL, getL]
            refine HL_cons rfl ?_
            refine o_pickT rfl hb43 ?_
            try dsimp only [putL, setL, evL, getL]
            refine HL_nil ?_
            exact hK26 _ _ ⟨true, H, rfl, hH⟩
          · replace H := iteF hb43 H
            refine HL_want ?_ ?_
            · exact wantT (j := 27) (b := false) (t := 30) (c := !u42) rfl rfl rfl rfl hb43
            refine o_faddr' (ft := 22) (off := 2) rfl Try.underlying55 rfl tI22 (by decide) ?_
            try dsimp only [putL, setL, evL, getL]
            refine HL_want ?_ ?_
            · exact wantT (j := 27) (b := false) (t := 30) (c := !u42) rfl rfl rfl rfl hb43
            refine o_load' rfl Try.underlying22 rfl (hH.hasv 0 rfl rfl) ?_
            try dsimp only [putL, setL, evL, getL]
            refine HL_want ?_ ?_
            · exact wantT (j := 27) (b := false) (t := 30) (c := !u42) rfl rfl rfl rfl hb43
            refine o_len rfl Try.underlying22 ?_
            try dsimp only [putL, setL, evL, getL]
            refine HL_want ?_ ?_
            · exact wantT (j := 27) (b := false) (t := 30) (c := !u42) rfl rfl rfl rfl hb43
            refine o_faddr' (ft := 3) (off := 0) rfl Try.underlying55 rfl tI3 (by decide) ?_
            try dsimp only [putL, setL, evL, getL]
            refine HL_want ?_ ?_
            · exact wantT (j := 27) (b := false) (t := 30) (c := !u42) rfl rfl rfl rfl hb43
            refine o_load' rfl Try.underlying3 rfl (hH.hasv 0 rfl rfl) ?_
            try dsimp only [putL, setL, evL, getL]
            refine HL_want ?_ ?_
            · exact wantT (j := 27) (b := false) (t := 30) (c := !u42) rfl rfl rfl rfl hb43
            refine o_faddr' (ft := 3) (off := 1) rfl Try.underlying55 rfl tI3 (by decide) ?_
            try dsimp only [putL, setL, evL, getL]
            refine HL_want ?_ ?_
            · exact wantT (j := 27) (b := false) (t := 30) (c := !u42) rfl rfl rfl rfl hb43
            refine o_load' rfl Try.underlying3 rfl (hH.hasv 0 rfl rfl) ?_
            try dsimp only [putL, setL, evL, getL]
            refine HL_want ?_ ?_
            · exact wantT (j := 27) (b := false) (t := 30) (c := !u42) rfl rfl rfl rfl hb43
            refine o_bin rfl rfl rfl ?_
            try dsimp only [putL, setL, evL, getL]
            refine HL_want ?_ ?_
            · exact wantT (j := 27) (b := false) (t := 30) (c := !u42) rfl rfl rfl rfl hb43
            refine o_bin rfl rfl rfl ?_
            try dsimp only [putL, setL, evL, getL]
            refine HL_cons rfl ?_
            refine o_pickF rfl hb43 ?_
            try dsimp only [putL, setL, evL, getL]
            refine HL_nil ?_
            exact hK26 _ _ ⟨(p0_2.length : Int) != (IntKind.i64.wrap (p0_0 * p0_1)), H, rfl, hH⟩
  · rintro l' s44 ⟨x35, H, hl, hH⟩
    generalize getL l' 3 = j3, getL l' 4 = j4, getL l' 5 = j5, getL l' 6 = j6, getL l' 7 = j7, getL l' 8 = j8, getL l' 9 = j9, getL l' 10 = j10, getL l' 11 = j11, getL l' 12 = j12, getL l' 13 = j13, getL l' 14 = j14, getL l' 15 = j15, getL l' 16 = j16, getL l' 17 = j17, getL l' 18 = j18, getL l' 19 = j19, getL l' 20 = j20, getL l' 21 = j21, getL l' 22 = j22, getL l' 23 = j23, getL l' 24 = j24, getL l' 25 = j25, getL l' 26 = j26, getL l' 27 = j27, getL l' 28 = j28, getL l' 29 = j29, getL l' 30 = j30, getL l' 31 = j31, getL l' 32 = j32, getL l' 33 = j33, getL l' 34 = j34, getL l' 35 = j35, getL l' 36 = j36, getL l' 37 = j37, getL l' 38 = j38, getL l' 39 = j39 at hl
    subst hl
    replace H := hG26 _ H
    try dsimp only at H
    rcases Bool.eq_false_or_eq_true x35 with hb45 | hb45
    · replace H := iteT hb45 H
      refine HT_true (congrArg Value.bool hb45) ?_
      refine HT_seq_k ?_
      intro K46 hK46
      refine HT_region ?_
      refine HL_cons rfl ?_
      refine o_assign ?_
      try dsimp only [putL, setL, evL, getL]
      refine HL_nil ?_
      refine hK46 _ _ ?_
      refine HT_ret ?_
      obtain rfl := Option.some.inj (show some _ = some r from H)
      exact hQr _ _ [.bool false] ⟨rfl, trivial⟩ ⟨rfl, hH.sel [] (by decide)⟩
    · replace H := iteF hb45 H
      refine HT_false (congrArg Value.bool hb45) ?_
      refine HT_skip ?_
      refine hK25 _ _ ?_
      refine HT_seq_k ?_
      intro K47 hK47
      refine HT_region ?_
      refine HL_cons rfl ?_
      refine o_faddr' (ft := 22) (off := 2) rfl Try.underlying55 rfl tI22 (by decide) ?_
      try dsimp only [putL, setL, evL, getL]
      refine HL_cons rfl ?_
      refine o_load' rfl Try.underlying22 rfl (hH.hasv 0 rfl rfl) ?_
      try dsimp only [putL, setL, evL, getL]
      obtain ⟨u48, hu48, H⟩ := headE H
      refine HL_cons rfl ?_
      refine o_call (args := #[.slice A0_2p p0_2.length c0_2p]) Try.func107 rfl rfl rfl (spec_l1AllRunes.ok sb s44 no A0_2p c0_2p p0_2 HRp0_2 (Hp.own hH.bs) _ hu48) ?_
      rintro _ s48 ⟨rfl, hD⟩
      replace hH := hH.back0 hD (Up.refl _ _ _)
      clear hD
      dsimp only [addC, setC, rmC, selC, getC] at hH
      try dsimp only [putL, setL, evL, getL]
      refine HL_cons rfl ?_
      refine o_move ?_
      try dsimp only [putL, setL, evL, getL]
      rcases Bool.eq_false_or_eq_true u48 with hb49 | hb49
      · replace H := iteT hb49 H
        refine HL_want ?_ ?_
        · exact wantT (j := 3) (b := true) (t := 44) (c := u48) rfl rfl rfl rfl hb49
        refine o_faddr' (ft := 22) (off := 2) rfl Try.underlying55 rfl tI22 (by decide) ?_
        try dsimp only [putL, setL, evL, getL]
        refine HL_want ?_ ?_
        · exact wantT (j := 3) (b := true) (t := 44) (c := u48) rfl rfl rfl rfl hb49
        refine o_load' rfl Try.underlying22 rfl (hH.hasv 0 rfl rfl) ?_
        try dsimp only [putL, setL, evL, getL]
        obtain ⟨u50, hu50, H⟩ := headE H
        refine HL_want ?_ ?_
        · exact wantT (j := 3) (b := true) (t := 44) (c := u48) rfl rfl rfl rfl hb49
        refine o_call (args := #[.slice A0_2p p0_2.length c0_2p, .int .i64 32, .int .i64 1114111]) Try.func108 rfl rfl rfl (spec_l1All.ok sb s48 no A0_2p c0_2p p0_2 32 1114111 HRp0_2 (Hp.own hH.bs) _ hu50) ?_
        rintro _ s50 ⟨rfl, hD⟩
        replace hH := hH.back0 hD (Up.refl _ _ _)
        clear hD
        dsimp only [addC, setC, rmC, selC, getC] at hH
        try dsimp only [putL, setL, evL, getL]
        refine HL_cons rfl ?_
        refine o_pickT rfl hb49 ?_
        try dsimp only [putL, setL, evL, getL]
        refine HL_cons rfl ?_
        refine o_assign ?_
        try dsimp only [putL, setL, evL, getL]
        refine HL_nil ?_
        refine hK47 _ _ ?_
        refine HT_ret ?_
        obtain rfl := Option.some.inj (show some _ = some r from H)
        exact hQr _ _ [.bool u50] ⟨rfl, trivial⟩ ⟨rfl, hH.sel [] (by decide)⟩
      · replace H := iteF hb49 H
        refine HL_skip ?_ ?_
        · exact wantF (j := 3) (b := true) (t := 44) (c := u48) rfl rfl rfl rfl hb49
        try dsimp only [putL, setL, evL, getL]
        refine HL_skip ?_ ?_
        · exact wantF (j := 3) (b := true) (t := 44) (c := u48) rfl rfl rfl rfl hb49
        try dsimp only [putL, setL, evL, getL]
        refine HL_skip ?_ ?_
        · exact wantF (j := 3) (b := true) (t := 44) (c := u48) rfl rfl rfl rfl hb49
        try dsimp only [putL, setL, evL, getL]
        refine HL_cons rfl ?_
        refine o_pickF rfl hb49 ?_
        try dsimp only [putL, setL, evL, getL]
        refine HL_cons rfl ?_
        refine o_assign ?_
        try dsimp only [putL, setL, evL, getL]
        refine HL_nil ?_
        refine hK47 _ _ ?_
        refine HT_ret ?_
        obtain rfl := Option.some.inj (show some _ = some r from H)
        exact hQr _ _ [.bool false] ⟨rfl, trivial⟩ ⟨rfl, hH.sel [] (by decide)⟩
def spec_l1Most.f (p0 : Int) (p1 : Int) : Option Int := if (decide (p0 > p1)) = true then (some p0) else (some p1)
def spec_l1Most.post (sb s : St) (F0 : Fp) (r : Int) : Value → St → Prop := fun v s' => v = .int .i64 r ∧ Hp sb s F0 s' []
set_option maxRecDepth 100000 in
set_option maxHeartbeats 4000000 in
theorem spec_l1Most.ok (sb s : St) (F0 : Fp) (p0 : Int) (p1 : Int) (hH : Hp sb s F0 s []) (r : Int) (H : spec_l1Most.f p0 p1 = some r) : GCall Try.prog 150 #[.int .i64 p0, .int .i64 p1] s (spec_l1Most.post sb s F0 r) := by
  refine GCall_ofk [.tmp 4] [.int .i64 p0, .int .i64 p1, undef, undef, undef, undef, undef, undef, undef, undef] Try.func150 rfl rfl rfl ?_
  intro w Q hQr hQn hQp
  replace H := topE H
  unfold spec_l1Most.f at H
  refine HT_seq_k ?_
  intro K1 hK1
  refine HT_region ?_
  refine HL_cons rfl ?_
  refine o_assign ?_
  try dsimp only [putL, setL, evL, getL]
  refine HL_nil ?_
  refine hK1 _ _ ?_
  refine HT_seq_k ?_
  intro K2 hK2
  refine HT_seq_k ?_
  intro K3 hK3
  refine HT_region ?_
  refine HL_cons rfl ?_
  refine o_move ?_
  try dsimp only [putL, setL, evL, getL]
  refine HL_cons rfl ?_
  refine o_move ?_
  try dsimp only [putL, setL, evL, getL]
  refine HL_cons rfl ?_
  refine o_bin rfl rfl rfl ?_
  try dsimp only [putL, setL, evL, getL]
  refine HL_nil ?_
  refine hK3 _ _ ?_
  rcases Bool.eq_false_or_eq_true (decide (p0 > p1)) with hb4 | hb4
  · replace H := iteT hb4 H
    refine HT_true (congrArg Value.bool hb4) ?_
    refine HT_seq_k ?_
    intro K5 hK5
    refine HT_region ?_
    refine HL_cons rfl ?_
    refine o_move ?_
    try dsimp only [putL, setL, evL, getL]
    refine HL_cons rfl ?_
    refine o_assign ?_
    try dsimp only [putL, setL, evL, getL]
    refine HL_nil ?_
    refine hK5 _ _ ?_
    refine HT_ret ?_
    obtain rfl := Option.some.inj (show some _ = some r from H)
    exact hQr _ _ [.int .i64 p0] ⟨rfl, trivial⟩ ⟨rfl, hH⟩
  · replace H := iteF hb4 H
    refine HT_false (congrArg Value.bool hb4) ?_
    refine HT_skip ?_
    refine hK2 _ _ ?_
    refine HT_seq_k ?_
    intro K6 hK6
    refine HT_region ?_
    refine HL_cons rfl ?_
    refine o_move ?_
    try dsimp only [putL, setL, evL, getL]
    refine HL_cons rfl ?_
    refine o_assign ?_
    try dsimp only [putL, setL, evL, getL]
    refine HL_nil ?_
    refine hK6 _ _ ?_
    refine HT_ret ?_
    obtain rfl := Option.some.inj (show some _ = some r from H)
    exact hQr _ _ [.int .i64 p1] ⟨rfl, trivial⟩ ⟨rfl, hH⟩
def spec_l1Least.f (p0 : Int) (p1 : Int) : Option Int := if (decide (p0 < p1)) = true then (some p0) else (some p1)
def spec_l1Least.post (sb s : St) (F0 : Fp) (r : Int) : Value → St → Prop := fun v s' => v = .int .i64 r ∧ Hp sb s F0 s' []
set_option maxRecDepth 100000 in
set_option maxHeartbeats 4000000 in
theorem spec_l1Least.ok (sb s : St) (F0 : Fp) (p0 : Int) (p1 : Int) (hH : Hp sb s F0 s []) (r : Int) (H : spec_l1Least.f p0 p1 = some r) : GCall Try.prog 154 #[.int .i64 p0, .int .i64 p1] s (spec_l1Least.post sb s F0 r) := by
  refine GCall_ofk [.tmp 4] [.int .i64 p0, .int .i64 p1, undef, undef, undef, undef, undef, undef, undef, undef] Try.func154 rfl rfl rfl ?_
  intro w Q hQr hQn hQp
  replace H := topE H
  unfold spec_l1Least.f at H
  refine HT_seq_k ?_
  intro K1 hK1
  refine HT_region ?_
  refine HL_cons rfl ?_
  refine o_assign ?_
  try dsimp only [putL, setL, evL, getL]
  refine HL_nil ?_
  refine hK1 _ _ ?_
  refine HT_seq_k ?_
  intro K2 hK2
  refine HT_seq_k ?_
  intro K3 hK3
  refine HT_region ?_
  refine HL_cons rfl ?_
  refine o_move ?_
  try dsimp only [putL, setL, evL, getL]
  refine HL_cons rfl ?_
  refine o_move ?_
  try dsimp only [putL, setL, evL, getL]
  refine HL_cons rfl ?_
  refine o_bin rfl rfl rfl ?_
  try dsimp only [putL, setL, evL, getL]
  refine HL_nil ?_
  refine hK3 _ _ ?_
  rcases Bool.eq_false_or_eq_true (decide (p0 < p1)) with hb4 | hb4
  · replace H := iteT hb4 H
    refine HT_true (congrArg Value.bool hb4) ?_
    refine HT_seq_k ?_
    intro K5 hK5
    refine HT_region ?_
    refine HL_cons rfl ?_
    refine o_move ?_
    try dsimp only [putL, setL, evL, getL]
    refine HL_cons rfl ?_
    refine o_assign ?_
    try dsimp only [putL, setL, evL, getL]
    refine HL_nil ?_
    refine hK5 _ _ ?_
    refine HT_ret ?_
    obtain rfl := Option.some.inj (show some _ = some r from H)
    exact hQr _ _ [.int .i64 p0] ⟨rfl, trivial⟩ ⟨rfl, hH⟩
  · replace H := iteF hb4 H
    refine HT_false (congrArg Value.bool hb4) ?_
    refine HT_skip ?_
    refine hK2 _ _ ?_
    refine HT_seq_k ?_
    intro K6 hK6
    refine HT_region ?_
    refine HL_cons rfl ?_
    refine o_move ?_
    try dsimp only [putL, setL, evL, getL]
    refine HL_cons rfl ?_
    refine o_assign ?_
    try dsimp only [putL, setL, evL, getL]
    refine HL_nil ?_
    refine hK6 _ _ ?_
    refine HT_ret ?_
    obtain rfl := Option.some.inj (show some _ = some r from H)
    exact hQr _ _ [.int .i64 p1] ⟨rfl, trivial⟩ ⟨rfl, hH⟩
def spec_l1Own.f (p0 : List (Int)) : Option (List (Int)) := (app? 17592186044416 ([] : List (Int)) p0).bind fun x4 => some x4
def spec_l1Own.post (sb s : St) (F0 : Fp) (r : (List (Int))) : Value → St → Prop := fun v s' => ∃ (A0 : Option Addr) (c0 : Nat), v = .slice A0 r.length c0 ∧ Hp sb s F0 s' [Ck.ol OI 3 A0 c0 r]
set_option maxRecDepth 100000 in
set_option maxHeartbeats 4000000 in
theorem spec_l1Own.ok (sb s : St) (F0 : Fp) (A0p : Option Addr) (c0p : Nat) (p0 : List (Int)) (HRp0 : Rd KI sb A0p c0p p0) (hH : Hp sb s F0 s []) (r : (List (Int))) (H : spec_l1Own.f p0 = some r) : GCall Try.prog 91 #[.slice A0p p0.length c0p] s (spec_l1Own.post sb s F0 r) := by
  refine GCall_ofk [.tmp 2] [.slice A0p p0.length c0p, undef, undef, undef, undef, undef] Try.func91 rfl rfl rfl ?_
  intro w Q hQr hQn hQp
  replace H := topE H
  unfold spec_l1Own.f at H
  refine HT_seq_k ?_
  intro K1 hK1
  refine HT_region ?_
  refine HL_cons rfl ?_
  refine o_assign ?_
  try dsimp only [putL, setL, evL, getL]
  refine HL_nil ?_
  refine hK1 _ _ ?_
  refine HT_seq_k ?_
  intro K2 hK2
  refine HT_region ?_
  refine HL_cons rfl ?_
  refine o_lit0H (α := Int) (K := KI) (O := OI) hH Try.underlying22 tI3 ?_
  intro A3 s3 hH' hG
  replace hH : Hp sb s F0 s3 [Ck.ol OI 3 A3 0 ([] : List (Int))] := hH'
  clear hH' hG
  try dsimp only [putL, setL, evL, getL]
  refine HL_cons rfl ?_
  refine o_move ?_
  try dsimp only [putL, setL, evL, getL]
  obtain ⟨x4, hx4, H⟩ := headE H
  refine HL_cons rfl ?_
  refine o_appF (K := KI) (n := 17592186044416) (A := A3) (c := 0) (xs := ([] : List (Int))) (ys := p0) (B := A0p) (c2 := c0p) hH 0 rfl rfl rfl rfl Try.underlying22 tI3 rfl (by decide) (by decide) (by decide) (Src.flat (HRp0.mono hH.bs.mono)) hx4 ?_
  intro A4 c4 s4 hH'
  replace hH : Hp sb s F0 s4 [Ck.ol OI 3 A4 c4 x4] := hH'
  clear hH'
  try dsimp only [putL, setL, evL, getL]
  refine HL_cons rfl ?_
  refine o_assign ?_
  try dsimp only [putL, setL, evL, getL]
  refine HL_nil ?_
  refine hK2 _ _ ?_
  refine HT_ret ?_
  obtain rfl := Option.some.inj (show some _ = some r from H)
  exact hQr _ _ [.slice A4 x4.length c4] ⟨rfl, trivial⟩ ⟨A4, c4, rfl, hH⟩
def spec_l16Down.l1 (p0_0 : Int) : Nat → Int → (List (Int)) → Option (List (Int))
  | 0, _, _ => none
  | kf + 1, x55, x56 => if (decide (x55 < p0_0)) = true then ((app? 17592186044416 x56 [32]).bind fun x72 => spec_l16Down.l1 p0_0 kf (IntKind.i64.wrap (x55 + 1)) x72) else (some x56)
def spec_l16Down.f (p0_0 : Int) (p0_1 : Int) (p0_2 : List (Int)) (p0_3 : Int) (p0_4 : Int) : Option (Int × Int × (List (Int)) × Int × Int) := if (decide (p0_4 < (IntKind.i64.wrap (p0_1 - 1)))) = true then (some (p0_0, p0_1, p0_2, 0, (IntKind.i64.wrap (p0_4 + 1)))) else ((cut? p0_2 p0_0 (p0_2.length : Int)).bind fun x14 => (spec_l1Own.f x14).bind fun u15 => (spec_l16Down.l1 p0_0 (((p0_0) - (0)).toNat + 2) 0 u15).bind fun (o : (List (Int))) => match o with | x47 => (some (p0_0, p0_1, x47, 0, p0_4)))
def spec_l16Down.post (sb s : St) (F0 : Fp) (r : Int × Int × (List (Int)) × Int × Int) : Value → St → Prop := fun v s' => ∃ (A2 : Option Addr) (c2 : Nat), v = .agg #[.int .i64 r.1, .int .i64 r.2.1, .slice A2 r.2.2.1.length c2, .int .i64 r.2.2.2.1, .int .i64 r.2.2.2.2] ∧ Hp sb s F0 s' [Ck.ol OI 3 A2 c2 r.2.2.1]
set_option maxRecDepth 100000 in
set_option maxHeartbeats 4000000 in
theorem spec_l16Down.ok (sb s : St) (F0 : Fp) (p0_0 : Int) (p0_1 : Int) (A0_2p : Option Addr) (c0_2p : Nat) (p0_2 : List (Int)) (p0_3 : Int) (p0_4 : Int) (hH : Hp sb s F0 s [Ck.ol OI 3 A0_2p c0_2p p0_2]) (r : Int × Int × (List (Int)) × Int × Int) (H : spec_l16Down.f p0_0 p0_1 p0_2 p0_3 p0_4 = some r) : GCall Try.prog 158 #[.agg #[.int .i64 p0_0, .int .i64 p0_1, .slice A0_2p p0_2.length c0_2p, .int .i64 p0_3, .int .i64 p0_4]] s (spec_l16Down.post sb s F0 r) := by
  refine GCall_ofk [.cell 2 55] [.agg #[.int .i64 p0_0, .int .i64 p0_1, .slice A0_2p p0_2.length c0_2p, .int .i64 p0_3, .int .i64 p0_4], undef, undef, undef, undef, undef, undef, undef, undef, undef, undef, undef, undef, undef, undef, undef, undef, undef, undef, undef, undef, undef, undef, undef, undef, undef, undef, undef, undef, undef, undef, undef, undef, undef, undef] Try.func158 rfl rfl rfl ?_
  intro w Q hQr hQn hQp
  replace H := topE H
  unfold spec_l16Down.f at H
  refine HT_seq_k ?_
  intro K1 hK1
  refine HT_region ?_
  refine HL_cons rfl ?_
  refine o_boxH hH rfl ?_
  intro b2 s2 hH' hG
  replace hH : Hp sb s F0 s2 [Ck.ol OI 3 A0_2p c0_2p p0_2, Ck.ov b2 [.int .i64 p0_0, .int .i64 p0_1, .slice A0_2p p0_2.length c0_2p, .int .i64 p0_3, .int .i64 p0_4] 55] := hH'
  clear hH' hG
  try dsimp only [putL, setL, evL, getL]
  refine HL_cons rfl ?_
  refine o_allocH hH tI55 ?_
  intro b3 s3 hH' hG
  replace hH : Hp sb s F0 s3 [Ck.ol OI 3 A0_2p c0_2p p0_2, Ck.ov b2 [.int .i64 p0_0, .int .i64 p0_1, .slice A0_2p p0_2.length c0_2p, .int .i64 p0_3, .int .i64 p0_4] 55, Ck.ov b3 [.int .i64 0, .int .i64 0, .slice none 0 0, .int .i64 0, .int .i64 0] 55] := hH'
  clear hH' hG
  try dsimp only [putL, setL, evL, getL]
  refine HL_nil ?_
  refine hK1 _ _ ?_
  refine HT_seq_k ?_
  intro K4 hK4
  refine HT_region ?_
  refine HL_cons rfl ?_
  refine o_faddr' (ft := 3) (off := 3) rfl Try.underlying55 rfl tI3 (by decide) ?_
  try dsimp only [putL, setL, evL, getL]
  refine HL_cons rfl ?_
  refine o_stvH (vs := [.int .i64 0]) (us' := [.int .i64 p0_0, .int .i64 p0_1, .slice A0_2p p0_2.length c0_2p, .int .i64 0, .int .i64 p0_4]) hH 1 rfl rfl rfl rfl rfl tI3 rfl (List.cons_ne_nil _ _) rfl rfl rfl ?_
  intro s5 hH'
  replace hH : Hp sb s F0 s5 [Ck.ol OI 3 A0_2p c0_2p p0_2, Ck.ov b2 [.int .i64 p0_0, .int .i64 p0_1, .slice A0_2p p0_2.length c0_2p, .int .i64 0, .int .i64 p0_4] 55, Ck.ov b3 [.int .i64 0, .int .i64 0, .slice none 0 0, .int .i64 0, .int .i64 0] 55] := hH'
  clear hH'
  try dsimp only [putL, setL, evL, getL]
  refine HL_nil ?_
  refine hK4 _ _ ?_
  refine HT_seq_k ?_
  intro K6 hK6
  refine HT_seq_k ?_
  intro K7 hK7
  refine HT_region ?_
  refine HL_cons rfl ?_
  refine o_faddr' (ft := 3) (off := 4) rfl Try.underlying55 rfl tI3 (by decide) ?_
  try dsimp only [putL, setL, evL, getL]
  refine HL_cons rfl ?_
  refine o_load' rfl Try.underlying3 rfl (hH.hasv 1 rfl rfl) ?_
  try dsimp only [putL, setL, evL, getL]
  refine HL_cons rfl ?_
  refine o_faddr' (ft := 3) (off := 1) rfl Try.underlying55 rfl tI3 (by decide) ?_
  try dsimp only [putL, setL, evL, getL]
  refine HL_cons rfl ?_
  refine o_load' rfl Try.underlying3 rfl (hH.hasv 1 rfl rfl) ?_
  try dsimp only [putL, setL, evL, getL]
  refine HL_cons rfl ?_
  refine o_bin rfl rfl rfl ?_
  try dsimp only [putL, setL, evL, getL]
  refine HL_cons rfl ?_
  refine o_bin rfl rfl rfl ?_
  try dsimp only [putL, setL, evL, getL]
  refine HL_nil ?_
  refine hK7 _ _ ?_
  rcases Bool.eq_false_or_eq_true (decide (p0_4 < (IntKind.i64.wrap (p0_1 - 1)))) with hb8 | hb8
  · replace H := iteT hb8 H
    refine HT_true (congrArg Value.bool hb8) ?_
    refine HT_seq_k ?_
    intro K9 hK9
    refine HT_region ?_
    refine HL_cons rfl ?_
    refine o_faddr' (ft := 3) (off := 4) rfl Try.underlying55 rfl tI3 (by decide) ?_
    try dsimp only [putL, setL, evL, getL]
    refine HL_cons rfl ?_
    refine o_load' rfl Try.underlying3 rfl (hH.hasv 1 rfl rfl) ?_
    try dsimp only [putL, setL, evL, getL]
    refine HL_cons rfl ?_
    refine o_bin rfl rfl rfl ?_
    try dsimp only [putL, setL, evL, getL]
    refine HL_cons rfl ?_
    refine o_faddr' (ft := 3) (off := 4) rfl Try.underlying55 rfl tI3 (by decide) ?_
    try dsimp only [putL, setL, evL, getL]
    refine HL_cons rfl ?_
    refine o_stvH (vs := [.int .i64 (IntKind.i64.wrap (p0_4 + 1))]) (us' := [.int .i64 p0_0, .int .i64 p0_1, .slice A0_2p p0_2.length c0_2p, .int .i64 0, .int .i64 (IntKind.i64.wrap (p0_4 + 1))]) hH 1 rfl rfl rfl rfl rfl tI3 rfl (List.cons_ne_nil _ _) rfl rfl rfl ?_
    intro s10 hH'
    replace hH : Hp sb s F0 s10 [Ck.ol OI 3 A0_2p c0_2p p0_2, Ck.ov b2 [.int .i64 p0_0, .int .i64 p0_1, .slice A0_2p p0_2.length c0_2p, .int .i64 0, .int .i64 (IntKind.i64.wrap (p0_4 + 1))] 55, Ck.ov b3 [.int .i64 0, .int .i64 0, .slice none 0 0, .int .i64 0, .int .i64 0] 55] := hH'
    clear hH'
    try dsimp only [putL, setL, evL, getL]
    refine HL_nil ?_
    refine hK9 _ _ ?_
    refine HT_seq_k ?_
    intro K11 hK11
    refine HT_region ?_
    refine HL_cons rfl ?_
    refine o_loads' [.int .i64 p0_0, .int .i64 p0_1, .slice A0_2p p0_2.length c0_2p, .int .i64 0, .int .i64 (IntKind.i64.wrap (p0_4 + 1))] rfl Try.underlying55 rfl tI55 rfl (hH.partv 1 rfl (0) [.int .i64 p0_0, .int .i64 p0_1, .slice A0_2p p0_2.length c0_2p, .int .i64 0, .int .i64 (IntKind.i64.wrap (p0_4 + 1))] rfl) ?_
    try dsimp only [putL, setL, evL, getL]
    refine HL_cons rfl ?_
    refine o_stvH (vs := [.int .i64 p0_0, .int .i64 p0_1, .slice A0_2p p0_2.length c0_2p, .int .i64 0, .int .i64 (IntKind.i64.wrap (p0_4 + 1))]) (us' := [.int .i64 p0_0, .int .i64 p0_1, .slice A0_2p p0_2.length c0_2p, .int .i64 0, .int .i64 (IntKind.i64.wrap (p0_4 + 1))]) hH 2 rfl rfl rfl rfl rfl tI55 rfl (List.cons_ne_nil _ _) rfl rfl rfl ?_
    intro s12 hH'
    replace hH : Hp sb s F0 s12 [Ck.ol OI 3 A0_2p c0_2p p0_2, Ck.ov b2 [.int .i64 p0_0, .int .i64 p0_1, .slice A0_2p p0_2.length c0_2p, .int .i64 0, .int .i64 (IntKind.i64.wrap (p0_4 + 1))] 55, Ck.ov b3 [.int .i64 p0_0, .int .i64 p0_1, .slice A0_2p p0_2.length c0_2p, .int .i64 0, .int .i64 (IntKind.i64.wrap (p0_4 + 1))] 55] := hH'
    clear hH'
    try dsimp only [putL, setL, evL, getL]
    refine HL_nil ?_
    refine hK11 _ _ ?_
    refine HT_ret ?_
    obtain rfl := Option.some.inj (show some _ = some r from H)
    exact hQr _ _ [.agg #[.int .i64 p0_0, .int .i64 p0_1, .slice A0_2p p0_2.length c0_2p, .int .i64 0, .int .i64 (IntKind.i64.wrap (p0_4 + 1))]] ⟨ResV.cells rfl Try.underlying55 rfl tI55 (hH.var 2 rfl) rfl, trivial⟩ ⟨A0_2p, c0_2p, rfl, hH.sel [0] (by decide)⟩
  · replace H := iteF hb8 H
    refine HT_false (congrArg Value.bool hb8) ?_
    refine HT_skip ?_
    refine hK6 _ _ ?_
    refine HT_seq_k ?_
    intro K13 hK13
    refine HT_region ?_
    refine HL_cons rfl ?_
    refine o_faddr' (ft := 22) (off := 2) rfl Try.underlying55 rfl tI22 (by decide) ?_
    try dsimp only [putL, setL, evL, getL]
    refine HL_cons rfl ?_
    refine o_load' rfl Try.underlying22 rfl (hH.hasv 1 rfl rfl) ?_
    try dsimp only [putL, setL, evL, getL]
    refine HL_cons rfl ?_
    refine o_faddr' (ft := 3) (off := 0) rfl Try.underlying55 rfl tI3 (by decide) ?_
    try dsimp only [putL, setL, evL, getL]
    refine HL_cons rfl ?_
    refine o_load' rfl Try.underlying3 rfl (hH.hasv 1 rfl rfl) ?_
    try dsimp only [putL, setL, evL, getL]
    obtain ⟨x14, hx14, H⟩ := headE H
    refine HL_cons rfl ?_
    refine o_cutA (xs := p0_2) (kl := .i64) (kh := .i64) (L := p0_0) (H := (p0_2.length : Int)) rfl rfl rfl Try.underlying22 tI3 (hH.rd 0 rfl).1 hx14 ?_
    have D14 := @Der.cut _ _ OI 3 A0_2p c0_2p _ _ _ _ hx14
    try dsimp only [putL, setL, evL, getL]
    obtain ⟨u15, hu15, H⟩ := headE H
    refine HL_cons rfl ?_
    refine o_call (args := #[.slice (cutA A0_2p c0_2p (Int.toNat p0_0) (Kd.sz KI)) x14.length (c0_2p - Int.toNat p0_0)]) Try.func91 rfl rfl rfl (spec_l1Own.ok s5 s5 no (cutA A0_2p c0_2p (Int.toNat p0_0) (Kd.sz KI)) (c0_2p - Int.toNat p0_0) x14 (D14 _ _ hH.bs (hH.ckP 0)) (Hp.own (Bs.refl s5)) _ hu15) ?_
    rintro _ s15 ⟨A16, c16, rfl, hD⟩
    replace hH := hH.back0T hD
    clear hD
    dsimp only [addC, setC, rmC, selC, getC] at hH
    try dsimp only [putL, setL, evL, getL]
    refine HL_cons rfl ?_
    refine o_faddr' (ft := 22) (off := 2) rfl Try.underlying55 rfl tI22 (by decide) ?_
    try dsimp only [putL, setL, evL, getL]
    refine HL_cons rfl ?_
    refine o_stvH (vs := [.slice A16 u15.length c16]) (us' := [.int .i64 p0_0, .int .i64 p0_1, .slice A16 u15.length c16, .int .i64 0, .int .i64 p0_4]) hH 1 rfl rfl rfl rfl rfl tI22 rfl (List.cons_ne_nil _ _) rfl rfl rfl ?_
    intro s17 hH'
    replace hH : Hp sb s F0 s17 [Ck.ol OI 3 A0_2p c0_2p p0_2, Ck.ov b2 [.int .i64 p0_0, .int .i64 p0_1, .slice A16 u15.length c16, .int .i64 0, .int .i64 p0_4] 55, Ck.ov b3 [.int .i64 0, .int .i64 0, .slice none 0 0, .int .i64 0, .int .i64 0] 55, Ck.ol OI 3 A16 c16 u15] := hH'
    clear hH'
    try dsimp only [putL, setL, evL, getL]
    refine HL_nil ?_
    refine hK13 _ _ ?_
    refine HT_seq_k ?_
    intro K18 hK18
    refine HT_seq_k ?_
    intro K19 hK19
    refine HT_region ?_
    refine HL_cons rfl ?_
    refine o_assign ?_
    try dsimp only [putL, setL, evL, getL]
    refine HL_nil ?_
    refine hK19 _ _ ?_
    refine joinH H fun G20 hG20 H => ?_
    refine HT_toK (fun l' s' => ∃ (x47 : List (Int)) (A47 : Option Addr) (c47 : Nat), G20 x47 = some r ∧ l' = [.agg #[.int .i64 p0_0, .int .i64 p0_1, .slice A0_2p p0_2.length c0_2p, .int .i64 p0_3, .int .i64 p0_4], .pointer (some ⟨b2, 0, none⟩), .pointer (some ⟨b3, 0, none⟩), getL l' 3, .pointer (some ⟨b2, 0 + 3, none⟩), .pointer (some ⟨b2, 0 + 4, none⟩), .int .i64 p0_4, .pointer (some ⟨b2, 0 + 1, none⟩), .int .i64 p0_1, .int .i64 (IntKind.i64.wrap (p0_1 - 1)), .bool (decide (p0_4 < (IntKind.i64.wrap (p0_1 - 1)))), undef, undef, undef, undef, undef, .pointer (some ⟨b2, 0 + 2, none⟩), .slice A0_2p p0_2.length c0_2p, .pointer (some ⟨b2, 0 + 0, none⟩), .int .i64 p0_0, .slice (cutA A0_2p c0_2p (Int.toNat p0_0) (Kd.sz KI)) x14.length (c0_2p - Int.toNat p0_0), .slice A16 u15.length c16, .pointer (some ⟨b2, 0 + 2, none⟩), getL l' 23, getL l' 24, getL l' 25, getL l' 26, getL l' 27, getL l' 28, getL l' 29, getL l' 30, getL l' 31, getL l' 32, getL l' 33, undef] ∧ Hp sb s F0 s' [Ck.ol OI 3 A47 c47 x47, Ck.ol OI 3 A0_2p c0_2p p0_2, Ck.ov b2 [.int .i64 p0_0, .int .i64 p0_1, .slice A47 x47.length c47, .int .i64 0, .int .i64 p0_4] 55, Ck.ov b3 [.int .i64 0, .int .i64 0, .slice none 0 0, .int .i64 0, .int .i64 0] 55]) ?_ ?_
    · intro K20 hK20
      refine HT_block ?_
      refine HT_loopK (fun kf l' s' => ∃ (x55 : Int) (x56 : List (Int)) (A56 : Option Addr) (c56 : Nat), (spec_l16Down.l1 p0_0 kf x55 x56).bind G20 = some r ∧ l' = [.agg #[.int .i64 p0_0, .int .i64 p0_1, .slice A0_2p p0_2.length c0_2p, .int .i64 p0_3, .int .i64 p0_4], .pointer (some ⟨b2, 0, none⟩), .pointer (some ⟨b3, 0, none⟩), .int .i64 x55, .pointer (some ⟨b2, 0 + 3, none⟩), .pointer (some ⟨b2, 0 + 4, none⟩), .int .i64 p0_4, .pointer (some ⟨b2, 0 + 1, none⟩), .int .i64 p0_1, .int .i64 (IntKind.i64.wrap (p0_1 - 1)), .bool (decide (p0_4 < (IntKind.i64.wrap (p0_1 - 1)))), undef, undef, undef, undef, undef, .pointer (some ⟨b2, 0 + 2, none⟩), .slice A0_2p p0_2.length c0_2p, .pointer (some ⟨b2, 0 + 0, none⟩), .int .i64 p0_0, .slice (cutA A0_2p c0_2p (Int.toNat p0_0) (Kd.sz KI)) x14.length (c0_2p - Int.toNat p0_0), .slice A16 u15.length c16, .pointer (some ⟨b2, 0 + 2, none⟩), getL l' 23, getL l' 24, getL l' 25, getL l' 26, getL l' 27, getL l' 28, getL l' 29, getL l' 30, getL l' 31, getL l' 32, getL l' 33, undef] ∧ Hp sb s F0 s' [Ck.ol OI 3 A56 c56 x56, Ck.ol OI 3 A0_2p c0_2p p0_2, Ck.ov b2 [.int .i64 p0_0, .int .i64 p0_1, .slice A56 x56.length c56, .int .i64 0, .int .i64 p0_4] 55, Ck.ov b3 [.int .i64 0, .int .i64 0, .slice none 0 0, .int .i64 0, .int .i64 0] 55]) (((p0_0) - (0)).toNat + 2) ⟨0, u15, A16, c16, H, rfl, hH.sel [3, 0, 1, 2] (by decide)⟩ ?_
      rintro kf l' s66 ⟨x55, x56, A56, c56, H, hl, hH⟩ K66 hK66
      generalize getL l' 23 = j23, getL l' 24 = j24, getL l' 25 = j25, getL l' 26 = j26, getL l' 27 = j27, getL l' 28 = j28, getL l' 29 = j29, getL l' 30 = j30, getL l' 31 = j31, getL l' 32 = j32, getL l' 33 = j33 at hl
      subst hl
      cases kf with
      | zero => simp [spec_l16Down.l1] at H
      | succ kf =>
        rw [spec_l16Down.l1] at H
        refine HT_seq_k ?_
        intro K67 hK67
        refine HT_seq_k ?_
        intro K68 hK68
        refine HT_region ?_
        refine HL_cons rfl ?_
        refine o_move ?_
        try dsimp only [putL, setL, evL, getL]
        refine HL_cons rfl ?_
        refine o_faddr' (ft := 3) (off := 0) rfl Try.underlying55 rfl tI3 (by decide) ?_
        try dsimp only [putL, setL, evL, getL]
        refine HL_cons rfl ?_
        refine o_load' rfl Try.underlying3 rfl (hH.hasv 2 rfl rfl) ?_
        try dsimp only [putL, setL, evL, getL]
        refine HL_cons rfl ?_
        refine o_bin rfl rfl rfl ?_
        try dsimp only [putL, setL, evL, getL]
        refine HL_nil ?_
        refine hK68 _ _ ?_
        rcases Bool.eq_false_or_eq_true (decide (x55 < p0_0)) with hb69 | hb69
        · replace H := iteT hb69 H
          refine HT_true (congrArg Value.bool hb69) ?_
          refine HT_skip ?_
          refine hK67 _ _ ?_
          refine HT_seq_k ?_
          intro K70 hK70
          refine HT_block ?_
          refine HT_region ?_
          refine HL_cons rfl ?_
          refine o_faddr' (ft := 22) (off := 2) rfl Try.underlying55 rfl tI22 (by decide) ?_
          try dsimp only [putL, setL, evL, getL]
          refine HL_cons rfl ?_
          refine o_load' rfl Try.underlying22 rfl (hH.hasv 2 rfl rfl) ?_
          try dsimp only [putL, setL, evL, getL]
          refine HL_cons rfl ?_
          refine o_litF (K := KI) (O := OI) (ca := #[.int .i64 32]) [[.int .i64 32]] [32] hH Try.underlying22 tI3 rfl (by decide) rfl rfl rfl rfl ⟨rfl, Ent.own (Ent.flat rfl), trivial⟩ ?_
          intro A71 s71 hH' hG
          replace hH : Hp sb s F0 s71 [Ck.ol OI 3 A56 c56 x56, Ck.ol OI 3 A0_2p c0_2p p0_2, Ck.ov b2 [.int .i64 p0_0, .int .i64 p0_1, .slice A56 x56.length c56, .int .i64 0, .int .i64 p0_4] 55, Ck.ov b3 [.int .i64 0, .int .i64 0, .slice none 0 0, .int .i64 0, .int .i64 0] 55, Ck.ol OI 3 A71 1 [32]] := hH'
          clear hH' hG
          try dsimp only [putL, setL, evL, getL]
          obtain ⟨x72, hx72, H⟩ := headE H
          refine HL_cons rfl ?_
          refine o_appF (K := KI) (n := 17592186044416) (A := A56) (c := c56) (xs := x56) (ys := [32]) (B := A71) (c2 := 1) hH 0 rfl rfl rfl rfl Try.underlying22 tI3 rfl (by decide) (by decide) (by decide) (Src.flat (hH.rd 4 rfl)) hx72 ?_
          intro A72 c72 s72 hH'
          replace hH : Hp sb s F0 s72 [Ck.ol OI 3 A72 c72 x72, Ck.ol OI 3 A0_2p c0_2p p0_2, Ck.ov b2 [.int .i64 p0_0, .int .i64 p0_1, .slice A56 x56.length c56, .int .i64 0, .int .i64 p0_4] 55, Ck.ov b3 [.int .i64 0, .int .i64 0, .slice none 0 0, .int .i64 0, .int .i64 0] 55, Ck.ol OI 3 A71 1 [32]] := hH'
          clear hH'
          try dsimp only [putL, setL, evL, getL]
          refine HL_cons rfl ?_
          refine o_faddr' (ft := 22) (off := 2) rfl Try.underlying55 rfl tI22 (by decide) ?_
          try dsimp only [putL, setL, evL, getL]
          refine HL_cons rfl ?_
          refine o_stvH (vs := [.slice A72 x72.length c72]) (us' := [.int .i64 p0_0, .int .i64 p0_1, .slice A72 x72.length c72, .int .i64 0, .int .i64 p0_4]) hH 2 rfl rfl rfl rfl rfl tI22 rfl (List.cons_ne_nil _ _) rfl rfl rfl ?_
          intro s73 hH'
          replace hH : Hp sb s F0 s73 [Ck.ol OI 3 A72 c72 x72, Ck.ol OI 3 A0_2p c0_2p p0_2, Ck.ov b2 [.int .i64 p0_0, .int .i64 p0_1, .slice A72 x72.length c72, .int .i64 0, .int .i64 p0_4] 55, Ck.ov b3 [.int .i64 0, .int .i64 0, .slice none 0 0, .int .i64 0, .int .i64 0] 55, Ck.ol OI 3 A71 1 [32]] := hH'
          clear hH'
          try dsimp only [putL, setL, evL, getL]
          refine HL_nil ?_
          refine hK70 _ _ ?_
          refine HT_region ?_
          refine HL_cons rfl ?_
          refine o_move ?_
          try dsimp only [putL, setL, evL, getL]
          refine HL_cons rfl ?_
          refine o_bin rfl rfl rfl ?_
          try dsimp only [putL, setL, evL, getL]
          refine HL_cons rfl ?_
          refine o_assign ?_
          try dsimp only [putL, setL, evL, getL]
          refine HL_nil ?_
          exact hK66 _ _ ⟨kf, Nat.lt_succ_self kf, IntKind.i64.wrap (x55 + 1), x72, A72, c72, H, rfl, hH.sel [0, 1, 2, 3] (by decide)⟩
        · replace H := iteF hb69 H
          refine HT_false (congrArg Value.bool hb69) ?_
          refine HT_exit ?_
          exact hK20 _ _ ⟨x56, A56, c56, H, rfl, hH⟩
    · rintro l' s74 ⟨x47, A47, c47, H, hl, hH⟩
      generalize getL l' 3 = j3, getL l' 23 = j23, getL l' 24 = j24, getL l' 25 = j25, getL l' 26 = j26, getL l' 27 = j27, getL l' 28 = j28, getL l' 29 = j29, getL l' 30 = j30, getL l' 31 = j31, getL l' 32 = j32, getL l' 33 = j33 at hl
      subst hl
      replace H := hG20 _ H
      try dsimp only at H
      refine hK18 _ _ ?_
      refine HT_seq_k ?_
      intro K75 hK75
      refine HT_region ?_
      refine HL_cons rfl ?_
      refine o_loads' [.int .i64 p0_0, .int .i64 p0_1, .slice A47 x47.length c47, .int .i64 0, .int .i64 p0_4] rfl Try.underlying55 rfl tI55 rfl (hH.partv 2 rfl (0) [.int .i64 p0_0, .int .i64 p0_1, .slice A47 x47.length c47, .int .i64 0, .int .i64 p0_4] rfl) ?_
      try dsimp only [putL, setL, evL, getL]
      refine HL_cons rfl ?_
      refine o_stvH (vs := [.int .i64 p0_0, .int .i64 p0_1, .slice A47 x47.length c47, .int .i64 0, .int .i64 p0_4]) (us' := [.int .i64 p0_0, .int .i64 p0_1, .slice A47 x47.length c47, .int .i64 0, .int .i64 p0_4]) hH 3 rfl rfl rfl rfl rfl tI55 rfl (List.cons_ne_nil _ _) rfl rfl rfl ?_
      intro s76 hH'
      replace hH : Hp sb s F0 s76 [Ck.ol OI 3 A47 c47 x47, Ck.ol OI 3 A0_2p c0_2p p0_2, Ck.ov b2 [.int .i64 p0_0, .int .i64 p0_1, .slice A47 x47.length c47, .int .i64 0, .int .i64 p0_4] 55, Ck.ov b3 [.int .i64 p0_0, .int .i64 p0_1, .slice A47 x47.length c47, .int .i64 0, .int .i64 p0_4] 55] := hH'
      clear hH'
      try dsimp only [putL, setL, evL, getL]
      refine HL_nil ?_
      refine hK75 _ _ ?_
      refine HT_ret ?_
      obtain rfl := Option.some.inj (show some _ = some r from H)
      exact hQr _ _ [.agg #[.int .i64 p0_0, .int .i64 p0_1, .slice A47 x47.length c47, .int .i64 0, .int .i64 p0_4]] ⟨ResV.cells rfl Try.underlying55 rfl tI55 (hH.var 3 rfl) rfl, trivial⟩ ⟨A47, c47, rfl, hH.sel [0] (by decide)⟩
def spec_l16New.l1 (p0 : Int) (p1 : Int) : Nat → Int → (List (Int)) → Option (List (Int))
  | 0, _, _ => none
  | kf + 1, x45, x46 => if (decide (x45 < (IntKind.i64.wrap (p0 * p1)))) = true then ((app? 17592186044416 x46 [32]).bind fun x62 => spec_l16New.l1 p0 p1 kf (IntKind.i64.wrap (x45 + 1)) x62) else (some x46)
def spec_l16New.f (p0 : Int) (p1 : Int) : Option (Int × Int × (List (Int)) × Int × Int) := (spec_l16New.l1 p0 p1 (((IntKind.i64.wrap (p0 * p1)) - (0)).toNat + 2) 0 []).bind fun (o : (List (Int))) => match o with | x36 => (some (p0, p1, x36, 0, 0))
def spec_l16New.post (sb s : St) (F0 : Fp) (r : Int × Int × (List (Int)) × Int × Int) : Value → St → Prop := fun v s' => ∃ (A2 : Option Addr) (c2 : Nat), v = .agg #[.int .i64 r.1, .int .i64 r.2.1, .slice A2 r.2.2.1.length c2, .int .i64 r.2.2.2.1, .int .i64 r.2.2.2.2] ∧ Hp sb s F0 s' [Ck.ol OI 3 A2 c2 r.2.2.1]
set_option maxRecDepth 100000 in
set_option maxHeartbeats 4000000 in
theorem spec_l16New.ok (sb s : St) (F0 : Fp) (p0 : Int) (p1 : Int) (hH : Hp sb s F0 s []) (r : Int × Int × (List (Int)) × Int × Int) (H : spec_l16New.f p0 p1 = some r) : GCall Try.prog 159 #[.int .i64 p0, .int .i64 p1] s (spec_l16New.post sb s F0 r) := by
  refine GCall_ofk [.cell 4 55] [.int .i64 p0, .int .i64 p1, undef, undef, undef, undef, undef, undef, undef, undef, undef, undef, undef, undef, undef, undef, undef, undef, undef, undef, undef, undef, undef] Try.func159 rfl rfl rfl ?_
  intro w Q hQr hQn hQp
  replace H := topE H
  unfold spec_l16New.f at H
  refine HT_seq_k ?_
  intro K1 hK1
  refine HT_region ?_
  refine HL_cons rfl ?_
  refine o_allocH hH tI55 ?_
  intro b2 s2 hH' hG
  replace hH : Hp sb s F0 s2 [Ck.ov b2 [.int .i64 0, .int .i64 0, .slice none 0 0, .int .i64 0, .int .i64 0] 55] := hH'
  clear hH' hG
  try dsimp only [putL, setL, evL, getL]
  refine HL_nil ?_
  refine hK1 _ _ ?_
  refine HT_seq_k ?_
  intro K3 hK3
  refine HT_region ?_
  refine HL_cons rfl ?_
  refine o_move ?_
  try dsimp only [putL, setL, evL, getL]
  refine HL_cons rfl ?_
  refine o_move ?_
  try dsimp only [putL, setL, evL, getL]
  refine HL_cons rfl ?_
  refine o_build (pl := [(0, 1), (1, 1), (2, 1), (3, 1), (4, 1)]) (cs := #[.int .i64 p0, .int .i64 p1, .slice none 0 0, .int .i64 0, .int .i64 0]) Try.underlying55 tI55 (by kernel_rfl) (by kernel_rfl) rfl ?_
  try dsimp only [putL, setL, evL, getL]
  refine HL_cons rfl ?_
  refine o_allocH hH tI55 ?_
  intro b4 s4 hH' hG
  replace hH : Hp sb s F0 s4 [Ck.ov b2 [.int .i64 0, .int .i64 0, .slice none 0 0, .int .i64 0, .int .i64 0] 55, Ck.ov b4 [.int .i64 0, .int .i64 0, .slice none 0 0, .int .i64 0, .int .i64 0] 55] := hH'
  clear hH' hG
  try dsimp only [putL, setL, evL, getL]
  refine HL_cons rfl ?_
  refine o_stvH (vs := [.int .i64 p0, .int .i64 p1, .slice none 0 0, .int .i64 0, .int .i64 0]) (us' := [.int .i64 p0, .int .i64 p1, .slice none 0 0, .int .i64 0, .int .i64 0]) hH 1 rfl rfl rfl rfl rfl tI55 rfl (List.cons_ne_nil _ _) rfl rfl rfl ?_
  intro s5 hH'
  replace hH : Hp sb s F0 s5 [Ck.ov b2 [.int .i64 0, .int .i64 0, .slice none 0 0, .int .i64 0, .int .i64 0] 55, Ck.ov b4 [.int .i64 p0, .int .i64 p1, .slice none 0 0, .int .i64 0, .int .i64 0] 55] := hH'
  clear hH'
  try dsimp only [putL, setL, evL, getL]
  refine HL_nil ?_
  refine hK3 _ _ ?_
  refine HT_seq_k ?_
  intro K6 hK6
  refine HT_seq_k ?_
  intro K7 hK7
  refine HT_region ?_
  refine HL_cons rfl ?_
  refine o_assign ?_
  try dsimp only [putL, setL, evL, getL]
  refine HL_nil ?_
  refine hK7 _ _ ?_
  refine joinH H fun G8 hG8 H => ?_
  refine HT_toK (fun l' s' => ∃ (x36 : List (Int)) (A36 : Option Addr) (c36 : Nat), G8 x36 = some r ∧ l' = [.int .i64 p0, .int .i64 p1, undef, undef, .pointer (some ⟨b2, 0, none⟩), .pointer (some ⟨b4, 0, none⟩), getL l' 6, .int .i64 p0, .int .i64 p1, .agg #[.int .i64 p0, .int .i64 p1, .slice none 0 0, .int .i64 0, .int .i64 0], getL l' 10, getL l' 11, getL l' 12, getL l' 13, getL l' 14, getL l' 15, getL l' 16, getL l' 17, getL l' 18, getL l' 19, getL l' 20, getL l' 21, undef] ∧ Hp sb s F0 s' [Ck.ol OI 3 A36 c36 x36, Ck.ov b2 [.int .i64 0, .int .i64 0, .slice none 0 0, .int .i64 0, .int .i64 0] 55, Ck.ov b4 [.int .i64 p0, .int .i64 p1, .slice A36 x36.length c36, .int .i64 0, .int .i64 0] 55]) ?_ ?_
  · intro K8 hK8
    refine HT_block ?_
    refine HT_loopK (fun kf l' s' => ∃ (x45 : Int) (x46 : List (Int)) (A46 : Option Addr) (c46 : Nat), (spec_l16New.l1 p0 p1 kf x45 x46).bind G8 = some r ∧ l' = [.int .i64 p0, .int .i64 p1, undef, undef, .pointer (some ⟨b2, 0, none⟩), .pointer (some ⟨b4, 0, none⟩), .int .i64 x45, .int .i64 p0, .int .i64 p1, .agg #[.int .i64 p0, .int .i64 p1, .slice none 0 0, .int .i64 0, .int .i64 0], getL l' 10, getL l' 11, getL l' 12, getL l' 13, getL l' 14, getL l' 15, getL l' 16, getL l' 17, getL l' 18, getL l' 19, getL l' 20, getL l' 21, undef] ∧ Hp sb s F0 s' [Ck.ol OI 3 A46 c46 x46, Ck.ov b2 [.int .i64 0, .int .i64 0, .slice none 0 0, .int .i64 0, .int .i64 0] 55, Ck.ov b4 [.int .i64 p0, .int .i64 p1, .slice A46 x46.length c46, .int .i64 0, .int .i64 0] 55]) (((IntKind.i64.wrap (p0 * p1)) - (0)).toNat + 2) ⟨0, [], none, 0, H, rfl, (hH.nil (K := KI) OI 3).sel [2, 0, 1] (by decide)⟩ ?_
    rintro kf l' s56 ⟨x45, x46, A46, c46, H, hl, hH⟩ K56 hK56
    generalize getL l' 10 = j10, getL l' 11 = j11, getL l' 12 = j12, getL l' 13 = j13, getL l' 14 = j14, getL l' 15 = j15, getL l' 16 = j16, getL l' 17 = j17, getL l' 18 = j18, getL l' 19 = j19, getL l' 20 = j20, getL l' 21 = j21 at hl
    subst hl
    cases kf with
    | zero => simp [spec_l16New.l1] at H
    | succ kf =>
      rw [spec_l16New.l1] at H
      refine HT_seq_k ?_
      intro K57 hK57
      refine HT_seq_k ?_
      intro K58 hK58
      refine HT_region ?_
      refine HL_cons rfl ?_
      refine o_move ?_
      try dsimp only [putL, setL, evL, getL]
      refine HL_cons rfl ?_
      refine o_move ?_
      try dsimp only [putL, setL, evL, getL]
      refine HL_cons rfl ?_
      refine o_move ?_
      try dsimp only [putL, setL, evL, getL]
      refine HL_cons rfl ?_
      refine o_bin rfl rfl rfl ?_
      try dsimp only [putL, setL, evL, getL]
      refine HL_cons rfl ?_
      refine o_bin rfl rfl rfl ?_
      try dsimp only [putL, setL, evL, getL]
      refine HL_nil ?_
      refine hK58 _ _ ?_
      rcases Bool.eq_false_or_eq_true (decide (x45 < (IntKind.i64.wrap (p0 * p1)))) with hb59 | hb59
      · replace H := iteT hb59 H
        refine HT_true (congrArg Value.bool hb59) ?_
        refine HT_skip ?_
        refine hK57 _ _ ?_
        refine HT_seq_k ?_
        intro K60 hK60
        refine HT_block ?_
        refine HT_region ?_
        refine HL_cons rfl ?_
        refine o_faddr' (ft := 22) (off := 2) rfl Try.underlying55 rfl tI22 (by decide) ?_
        try dsimp only [putL, setL, evL, getL]
        refine HL_cons rfl ?_
        refine o_load' rfl Try.underlying22 rfl (hH.hasv 2 rfl rfl) ?_
        try dsimp only [putL, setL, evL, getL]
        refine HL_cons rfl ?_
        refine o_litF (K := KI) (O := OI) (ca := #[.int .i64 32]) [[.int .i64 32]] [32] hH Try.underlying22 tI3 rfl (by decide) rfl rfl rfl rfl ⟨rfl, Ent.own (Ent.flat rfl), trivial⟩ ?_
        intro A61 s61 hH' hG
        replace hH : Hp sb s F0 s61 [Ck.ol OI 3 A46 c46 x46, Ck.ov b2 [.int .i64 0, .int .i64 0, .slice none 0 0, .int .i64 0, .int .i64 0] 55, Ck.ov b4 [.int .i64 p0, .int .i64 p1, .slice A46 x46.length c46, .int .i64 0, .int .i64 0] 55, Ck.ol OI 3 A61 1 [32]] := hH'
        clear hH' hG
        try dsimp only [putL, setL, evL, getL]
        obtain ⟨x62, hx62, H⟩ := headE H
        refine HL_cons rfl ?_
        refine o_appF (K := KI) (n := 17592186044416) (A := A46) (c := c46) (xs := x46) (ys := [32]) (B := A61) (c2 := 1) hH 0 rfl rfl rfl rfl Try.underlying22 tI3 rfl (by decide) (by decide) (by decide) (Src.flat (hH.rd 3 rfl)) hx62 ?_
        intro A62 c62 s62 hH'
        replace hH : Hp sb s F0 s62 [Ck.ol OI 3 A62 c62 x62, Ck.ov b2 [.int .i64 0, .int .i64 0, .slice none 0 0, .int .i64 0, .int .i64 0] 55, Ck.ov b4 [.int .i64 p0, .int .i64 p1, .slice A46 x46.length c46, .int .i64 0, .int .i64 0] 55, Ck.ol OI 3 A61 1 [32]] := hH'
        clear hH'
        try dsimp only [putL, setL, evL, getL]
        refine HL_cons rfl ?_
        refine o_faddr' (ft := 22) (off := 2) rfl Try.underlying55 rfl tI22 (by decide) ?_
        try dsimp only [putL, setL, evL, getL]
        refine HL_cons rfl ?_
        refine o_stvH (vs := [.slice A62 x62.length c62]) (us' := [.int .i64 p0, .int .i64 p1, .slice A62 x62.length c62, .int .i64 0, .int .i64 0]) hH 2 rfl rfl rfl rfl rfl tI22 rfl (List.cons_ne_nil _ _) rfl rfl rfl ?_
        intro s63 hH'
        replace hH : Hp sb s F0 s63 [Ck.ol OI 3 A62 c62 x62, Ck.ov b2 [.int .i64 0, .int .i64 0, .slice none 0 0, .int .i64 0, .int .i64 0] 55, Ck.ov b4 [.int .i64 p0, .int .i64 p1, .slice A62 x62.length c62, .int .i64 0, .int .i64 0] 55, Ck.ol OI 3 A61 1 [32]] := hH'
        clear hH'
        try dsimp only [putL, setL, evL, getL]
        refine HL_nil ?_
        refine hK60 _ _ ?_
        refine HT_region ?_
        refine HL_cons rfl ?_
        refine o_move ?_
        try dsimp only [putL, setL, evL, getL]
        refine HL_cons rfl ?_
        refine o_bin rfl rfl rfl ?_
        try dsimp only [putL, setL, evL, getL]
        refine HL_cons rfl ?_
        refine o_assign ?_
        try dsimp only [putL, setL, evL, getL]
        refine HL_nil ?_
        exact hK56 _ _ ⟨kf, Nat.lt_succ_self kf, IntKind.i64.wrap (x45 + 1), x62, A62, c62, H, rfl, hH.sel [0, 1, 2] (by decide)⟩
      · replace H := iteF hb59 H
        refine HT_false (congrArg Value.bool hb59) ?_
        refine HT_exit ?_
        exact hK8 _ _ ⟨x46, A46, c46, H, rfl, hH⟩
  · rintro l' s64 ⟨x36, A36, c36, H, hl, hH⟩
    generalize getL l' 6 = j6, getL l' 10 = j10, getL l' 11 = j11, getL l' 12 = j12, getL l' 13 = j13, getL l' 14 = j14, getL l' 15 = j15, getL l' 16 = j16, getL l' 17 = j17, getL l' 18 = j18, getL l' 19 = j19, getL l' 20 = j20, getL l' 21 = j21 at hl
    subst hl
    replace H := hG8 _ H
    try dsimp only at H
    refine hK6 _ _ ?_
    refine HT_seq_k ?_
    intro K65 hK65
    refine HT_region ?_
    refine HL_cons rfl ?_
    refine o_loads' [.int .i64 p0, .int .i64 p1, .slice A36 x36.length c36, .int .i64 0, .int .i64 0] rfl Try.underlying55 rfl tI55 rfl (hH.partv 2 rfl (0) [.int .i64 p0, .int .i64 p1, .slice A36 x36.length c36, .int .i64 0, .int .i64 0] rfl) ?_
    try dsimp only [putL, setL, evL, getL]
    refine HL_cons rfl ?_
    refine o_stvH (vs := [.int .i64 p0, .int .i64 p1, .slice A36 x36.length c36, .int .i64 0, .int .i64 0]) (us' := [.int .i64 p0, .int .i64 p1, .slice A36 x36.length c36, .int .i64 0, .int .i64 0]) hH 1 rfl rfl rfl rfl rfl tI55 rfl (List.cons_ne_nil _ _) rfl rfl rfl ?_
    intro s66 hH'
    replace hH : Hp sb s F0 s66 [Ck.ol OI 3 A36 c36 x36, Ck.ov b2 [.int .i64 p0, .int .i64 p1, .slice A36 x36.length c36, .int .i64 0, .int .i64 0] 55, Ck.ov b4 [.int .i64 p0, .int .i64 p1, .slice A36 x36.length c36, .int .i64 0, .int .i64 0] 55] := hH'
    clear hH'
    try dsimp only [putL, setL, evL, getL]
    refine HL_nil ?_
    refine hK65 _ _ ?_
    refine HT_ret ?_
    obtain rfl := Option.some.inj (show some _ = some r from H)
    exact hQr _ _ [.agg #[.int .i64 p0, .int .i64 p1, .slice A36 x36.length c36, .int .i64 0, .int .i64 0]] ⟨ResV.cells rfl Try.underlying55 rfl tI55 (hH.var 1 rfl) rfl, trivial⟩ ⟨A36, c36, rfl, hH.sel [0] (by decide)⟩
def spec_l16Put.f (p0_0 : Int) (p0_1 : Int) (p0_2 : List (Int)) (p0_3 : Int) (p0_4 : Int) (p1 : Int) : Option (Int × Int × (List (Int)) × Int × Int) := (if (p1 == 8) = true then ((spec_l1Most.f 0 (IntKind.i64.wrap (p0_3 - 1))).bind fun u61 => some (p0_0, p0_1, p0_2, u61, p0_4)) else (if (p1 == 9) = true then ((quo? .i64 p0_3 4).bind fun u65 => (spec_l1Least.f p0_0 (IntKind.i64.wrap ((IntKind.i64.wrap (u65 * 4)) + 4))).bind fun u66 => some (p0_0, p0_1, p0_2, u66, p0_4)) else (if (p1 == 10) = true then ((spec_l16Down.f p0_0 p0_1 p0_2 p0_3 p0_4).bind fun u70 => some (u70.1, u70.2.1, u70.2.2.1, u70.2.2.2.1, u70.2.2.2.2)) else (if (p1 == 12) = true then ((spec_l16New.f p0_0 p0_1).bind fun u75 => some (u75.1, u75.2.1, u75.2.2.1, u75.2.2.2.1, u75.2.2.2.2)) else (if (p1 == 13) = true then (some (p0_0, p0_1, p0_2, 0, p0_4)) else (if (decide (p1 ≥ 32)) = true then ((if (p0_3 == p0_0) = true then ((spec_l16Down.f p0_0 p0_1 p0_2 p0_3 p0_4).bind fun u96 => some (u96.1, u96.2.1, u96.2.2.1, u96.2.2.2.1, u96.2.2.2.2)) else (some (p0_0, p0_1, p0_2, p0_3, p0_4))).bind fun (o : Int × Int × (List (Int)) × Int × Int) => match o with | (x89, x90, x91, x92, x93) => ((spec_l1Own.f x91).bind fun u101 => (rd? u101 (IntKind.i64.wrap ((IntKind.i64.wrap (x93 * x89)) + x92))).bind fun u105 => (st? u101 (IntKind.i64.wrap ((IntKind.i64.wrap (x93 * x89)) + x92)) p1).bind fun x106 => some (x89, x90, x106, (IntKind.i64.wrap (x92 + 1)), x93))) else (some (p0_0, p0_1, p0_2, p0_3, p0_4)))))))).bind fun (o : Int × Int × (List (Int)) × Int × Int) => match o with | (x54, x55, x56, x57, x58) => (some (x54, x55, x56, x57, x58))
def spec_l16Put.post (sb s : St) (F0 : Fp) (r : Int × Int × (List (Int)) × Int × Int) : Value → St → Prop := fun v s' => ∃ (A2 : Option Addr) (c2 : Nat), v = .agg #[.int .i64 r.1, .int .i64 r.2.1, .slice A2 r.2.2.1.length c2, .int .i64 r.2.2.2.1, .int .i64 r.2.2.2.2] ∧ Hp sb s F0 s' [Ck.ol OI 3 A2 c2 r.2.2.1]
set_option maxRecDepth 100000 in
set_option maxHeartbeats 4000000 in
theorem spec_l16Put.ok (sb s : St) (F0 : Fp) (p0_0 : Int) (p0_1 : Int) (A0_2p : Option Addr) (c0_2p : Nat) (p0_2 : List (Int)) (p0_3 : Int) (p0_4 : Int) (p1 : Int) (hH : Hp sb s F0 s [Ck.ol OI 3 A0_2p c0_2p p0_2]) (r : Int × Int × (List (Int)) × Int × Int) (H : spec_l16Put.f p0_0 p0_1 p0_2 p0_3 p0_4 p1 = some r) : GCall Try.prog 136 #[.agg #[.int .i64 p0_0, .int .i64 p0_1, .slice A0_2p p0_2.length c0_2p, .int .i64 p0_3, .int .i64 p0_4], .int .i64 p1] s (spec_l16Put.post sb s F0 r) := by
  refine GCall_ofk [.cell 4 55] [.agg #[.int .i64 p0_0, .int .i64 p0_1, .slice A0_2p p0_2.length c0_2p, .int .i64 p0_3, .int .i64 p0_4], .int .i64 p1, undef, undef, undef, undef, undef, undef, undef, undef, undef, undef, undef, undef, undef, undef, undef, undef, undef, undef, undef, undef, undef, undef, undef, undef, undef, undef, undef, undef, undef, undef, undef, undef, undef, undef, undef, undef, undef, undef, undef, undef, undef, undef, undef, undef, undef, undef, undef, undef, undef, undef, undef, undef, undef, undef, undef, undef, undef, undef, undef, undef, undef, undef, undef, undef, undef, undef, undef, undef, undef, undef, undef] Try.func136 rfl rfl rfl ?_
  intro w Q hQr hQn hQp
  replace H := topE H
  unfold spec_l16Put.f at H
  refine HT_seq_k ?_
  intro K1 hK1
  refine HT_region ?_
  refine HL_cons rfl ?_
  refine o_boxH hH rfl ?_
  intro b2 s2 hH' hG
  replace hH : Hp sb s F0 s2 [Ck.ol OI 3 A0_2p c0_2p p0_2, Ck.ov b2 [.int .i64 p0_0, .int .i64 p0_1, .slice A0_2p p0_2.length c0_2p, .int .i64 p0_3, .int .i64 p0_4] 55] := hH'
  clear hH' hG
  try dsimp only [putL, setL, evL, getL]
  refine HL_cons rfl ?_
  refine o_allocH hH tI55 ?_
  intro b3 s3 hH' hG
  replace hH : Hp sb s F0 s3 [Ck.ol OI 3 A0_2p c0_2p p0_2, Ck.ov b2 [.int .i64 p0_0, .int .i64 p0_1, .slice A0_2p p0_2.length c0_2p, .int .i64 p0_3, .int .i64 p0_4] 55, Ck.ov b3 [.int .i64 0, .int .i64 0, .slice none 0 0, .int .i64 0, .int .i64 0] 55] := hH'
  clear hH' hG
  try dsimp only [putL, setL, evL, getL]
  refine HL_nil ?_
  refine hK1 _ _ ?_
  refine joinH H fun G4 hG4 H => ?_
  refine HT_joinK (fun l' s' => ∃ (x54 : Int) (x55 : Int) (x56 : List (Int)) (A56 : Option Addr) (c56 : Nat) (x57 : Int) (x58 : Int), G4 (x54, x55, x56, x57, x58) = some r ∧ l' = [.agg #[.int .i64 p0_0, .int .i64 p0_1, .slice A0_2p p0_2.length c0_2p, .int .i64 p0_3, .int .i64 p0_4], .int .i64 p1, .pointer (some ⟨b2, 0, none⟩), undef, .pointer (some ⟨b3, 0, none⟩), getL l' 5, getL l' 6, getL l' 7, getL l' 8, getL l' 9, getL l' 10, getL l' 11, getL l' 12, getL l' 13, getL l' 14, getL l' 15, getL l' 16, getL l' 17, getL l' 18, getL l' 19, getL l' 20, getL l' 21, getL l' 22, getL l' 23, getL l' 24, getL l' 25, getL l' 26, getL l' 27, getL l' 28, getL l' 29, getL l' 30, getL l' 31, getL l' 32, getL l' 33, getL l' 34, getL l' 35, getL l' 36, getL l' 37, getL l' 38, getL l' 39, getL l' 40, getL l' 41, getL l' 42, getL l' 43, getL l' 44, getL l' 45, getL l' 46, getL l' 47, getL l' 48, getL l' 49, getL l' 50, getL l' 51, getL l' 52, getL l' 53, getL l' 54, getL l' 55, getL l' 56, getL l' 57, getL l' 58, getL l' 59, getL l' 60, getL l' 61, getL l' 62, getL l' 63, getL l' 64, getL l' 65, getL l' 66, getL l' 67, getL l' 68, getL l' 69, getL l' 70, getL l' 71, undef] ∧ Hp sb s F0 s' [Ck.ol OI 3 A56 c56 x56, Ck.ov b2 [.int .i64 x54, .int .i64 x55, .slice A56 x56.length c56, .int .i64 x57, .int .i64 x58] 55, Ck.ov b3 [.int .i64 0, .int .i64 0, .slice none 0 0, .int .i64 0, .int .i64 0] 55]) ?_ ?_
  · intro K4 hK4
    refine HT_block ?_
    refine HT_seq_k ?_
    intro K59 hK59
    refine HT_region ?_
    refine HL_cons rfl ?_
    refine o_move ?_
    try dsimp only [putL, setL, evL, getL]
    refine HL_cons rfl ?_
    refine o_bin rfl rfl rfl ?_
    try dsimp only [putL, setL, evL, getL]
    refine HL_cons rfl ?_
    refine o_assign ?_
    try dsimp only [putL, setL, evL, getL]
    refine HL_nil ?_
    refine hK59 _ _ ?_
    rcases Bool.eq_false_or_eq_true (p1 == 8) with hb60 | hb60
    · replace H := iteT hb60 H
      refine HT_true (congrArg Value.bool hb60) ?_
      refine HT_region ?_
      refine HL_cons rfl ?_
      refine o_faddr' (ft := 3) (off := 3) rfl Try.underlying55 rfl tI3 (by decide) ?_
      try dsimp only [putL, setL, evL, getL]
      refine HL_cons rfl ?_
      refine o_load' rfl Try.underlying3 rfl (hH.hasv 1 rfl rfl) ?_
      try dsimp only [putL, setL, evL, getL]
      refine HL_cons rfl ?_
      refine o_bin rfl rfl rfl ?_
      try dsimp only [putL, setL, evL, getL]
      obtain ⟨u61, hu61, H⟩ := headE H
      refine HL_cons rfl ?_
      refine o_call (args := #[.int .i64 0, .int .i64 (IntKind.i64.wrap (p0_3 - 1))]) Try.func150 rfl rfl rfl (spec_l1Most.ok sb s3 no 0 (IntKind.i64.wrap (p0_3 - 1)) (Hp.own hH.bs) _ hu61) ?_
      rintro _ s61 ⟨rfl, hD⟩
      replace hH := hH.back0 hD (Up.refl _ _ _)
      clear hD
      dsimp only [addC, setC, rmC, selC, getC] at hH
      try dsimp only [putL, setL, evL, getL]
      refine HL_cons rfl ?_
      refine o_faddr' (ft := 3) (off := 3) rfl Try.underlying55 rfl tI3 (by decide) ?_
      try dsimp only [putL, setL, evL, getL]
      refine HL_cons rfl ?_
      refine o_stvH (vs := [.int .i64 u61]) (us' := [.int .i64 p0_0, .int .i64 p0_1, .slice A0_2p p0_2.length c0_2p, .int .i64 u61, .int .i64 p0_4]) hH 1 rfl rfl rfl rfl rfl tI3 rfl (List.cons_ne_nil _ _) rfl rfl rfl ?_
      intro s62 hH'
      replace hH : Hp sb s F0 s62 [Ck.ol OI 3 A0_2p c0_2p p0_2, Ck.ov b2 [.int .i64 p0_0, .int .i64 p0_1, .slice A0_2p p0_2.length c0_2p, .int .i64 u61, .int .i64 p0_4] 55, Ck.ov b3 [.int .i64 0, .int .i64 0, .slice none 0 0, .int .i64 0, .int .i64 0] 55] := hH'
      clear hH'
      try dsimp only [putL, setL, evL, getL]
      refine HL_nil ?_
      exact hK4 _ _ ⟨p0_0, p0_1, p0_2, A0_2p, c0_2p, u61, p0_4, H, rfl, hH⟩
    · replace H := iteF hb60 H
      refine HT_false (congrArg Value.bool hb60) ?_
      refine HT_seq_k ?_
      intro K63 hK63
      refine HT_region ?_
      refine HL_cons rfl ?_
      refine o_move ?_
      try dsimp only [putL, setL, evL, getL]
      refine HL_cons rfl ?_
      refine o_bin rfl rfl rfl ?_
      try dsimp only [putL, setL, evL, getL]
      refine HL_cons rfl ?_
      refine o_assign ?_
      try dsimp only [putL, setL, evL, getL]
      refine HL_nil ?_
      refine hK63 _ _ ?_
      rcases Bool.eq_false_or_eq_true (p1 == 9) with hb64 | hb64
      · replace H := iteT hb64 H
        refine HT_true (congrArg Value.bool hb64) ?_
        refine HT_region ?_
        refine HL_cons rfl ?_
        refine o_faddr' (ft := 3) (off := 0) rfl Try.underlying55 rfl tI3 (by decide) ?_
        try dsimp only [putL, setL, evL, getL]
        refine HL_cons rfl ?_
        refine o_load' rfl Try.underlying3 rfl (hH.hasv 1 rfl rfl) ?_
        try dsimp only [putL, setL, evL, getL]
        refine HL_cons rfl ?_
        refine o_faddr' (ft := 3) (off := 3) rfl Try.underlying55 rfl tI3 (by decide) ?_
        try dsimp only [putL, setL, evL, getL]
        refine HL_cons rfl ?_
        refine o_load' rfl Try.underlying3 rfl (hH.hasv 1 rfl rfl) ?_
        try dsimp only [putL, setL, evL, getL]
        obtain ⟨u65, hu65, H⟩ := headE H
        refine HL_cons rfl ?_
        refine o_quo' rfl rfl hu65 ?_
        try dsimp only [putL, setL, evL, getL]
        refine HL_cons rfl ?_
        refine o_bin rfl rfl rfl ?_
        try dsimp only [putL, setL, evL, getL]
        refine HL_cons rfl ?_
        refine o_bin rfl rfl rfl ?_
        try dsimp only [putL, setL, evL, getL]
        obtain ⟨u66, hu66, H⟩ := headE H
        refine HL_cons rfl ?_
        refine o_call (args := #[.int .i64 p0_0, .int .i64 (IntKind.i64.wrap ((IntKind.i64.wrap (u65 * 4)) + 4))]) Try.func154 rfl rfl rfl (spec_l1Least.ok sb s3 no p0_0 (IntKind.i64.wrap ((IntKind.i64.wrap (u65 * 4)) + 4)) (Hp.own hH.bs) _ hu66) ?_
        rintro _ s66 ⟨rfl, hD⟩
        replace hH := hH.back0 hD (Up.refl _ _ _)
        clear hD
        dsimp only [addC, setC, rmC, selC, getC] at hH
        try dsimp only [putL, setL, evL, getL]
        refine HL_cons rfl ?_
        refine o_faddr' (ft := 3) (off := 3) rfl Try.underlying55 rfl tI3 (by decide) ?_
        try dsimp only [putL, setL, evL, getL]
        refine HL_cons rfl ?_
        refine o_stvH (vs := [.int .i64 u66]) (us' := [.int .i64 p0_0, .int .i64 p0_1, .slice A0_2p p0_2.length c0_2p, .int .i64 u66, .int .i64 p0_4]) hH 1 rfl rfl rfl rfl rfl tI3 rfl (List.cons_ne_nil _ _) rfl rfl rfl ?_
        intro s67 hH'
        replace hH : Hp sb s F0 s67 [Ck.ol OI 3 A0_2p c0_2p p0_2, Ck.ov b2 [.int .i64 p0_0, .int .i64 p0_1, .slice A0_2p p0_2.length c0_2p, .int .i64 u66, .int .i64 p0_4] 55, Ck.ov b3 [.int .i64 0, .int .i64 0, .slice none 0 0, .int .i64 0, .int .i64 0] 55] := hH'
        clear hH'
        try dsimp only [putL, setL, evL, getL]
        refine HL_nil ?_
        exact hK4 _ _ ⟨p0_0, p0_1, p0_2, A0_2p, c0_2p, u66, p0_4, H, rfl, hH⟩
      · replace H := iteF hb64 H
        refine HT_false (congrArg Value.bool hb64) ?_
        refine HT_seq_k ?_
        intro K68 hK68
        refine HT_region ?_
        refine HL_cons rfl ?_
        refine o_move ?_
        try dsimp only [putL, setL, evL, getL]
        refine HL_cons rfl ?_
        refine o_bin rfl rfl rfl ?_
        try dsimp only [putL, setL, evL, getL]
        refine HL_cons rfl ?_
        refine o_assign ?_
        try dsimp only [putL, setL, evL, getL]
        refine HL_nil ?_
        refine hK68 _ _ ?_
        rcases Bool.eq_false_or_eq_true (p1 == 10) with hb69 | hb69
        · replace H := iteT hb69 H
          refine HT_true (congrArg Value.bool hb69) ?_
          refine HT_region ?_
          refine HL_cons rfl ?_
          refine o_loads' [.int .i64 p0_0, .int .i64 p0_1, .slice A0_2p p0_2.length c0_2p, .int .i64 p0_3, .int .i64 p0_4] rfl Try.underlying55 rfl tI55 rfl (hH.partv 1 rfl (0) [.int .i64 p0_0, .int .i64 p0_1, .slice A0_2p p0_2.length c0_2p, .int .i64 p0_3, .int .i64 p0_4] rfl) ?_
          try dsimp only [putL, setL, evL, getL]
          obtain ⟨u70, hu70, H⟩ := headE H
          obtain ⟨F1, hA, hB⟩ := hH.take [0] (by decide)
          dsimp only [addC, setC, rmC, selC, getC] at hA
          refine HL_cons rfl ?_
          refine o_call (args := #[.agg #[.int .i64 p0_0, .int .i64 p0_1, .slice A0_2p p0_2.length c0_2p, .int .i64 p0_3, .int .i64 p0_4]]) Try.func158 rfl rfl rfl (spec_l16Down.ok sb s3 F1 p0_0 p0_1 A0_2p c0_2p p0_2 p0_3 p0_4 hA _ hu70) ?_
          rintro _ s70 ⟨A71, c71, rfl, hD⟩
          replace hH := hB _ _ _ (Up.refl _ _ _) hD
          clear hD hA hB
          dsimp only [addC, setC, rmC, selC, getC] at hH
          try dsimp only [putL, setL, evL, getL]
          refine HL_cons rfl ?_
          refine o_stvH (vs := [.int .i64 u70.1, .int .i64 u70.2.1, .slice A71 u70.2.2.1.length c71, .int .i64 u70.2.2.2.1, .int .i64 u70.2.2.2.2]) (us' := [.int .i64 u70.1, .int .i64 u70.2.1, .slice A71 u70.2.2.1.length c71, .int .i64 u70.2.2.2.1, .int .i64 u70.2.2.2.2]) hH 1 rfl rfl rfl rfl rfl tI55 rfl (List.cons_ne_nil _ _) rfl rfl rfl ?_
          intro s72 hH'
          replace hH : Hp sb s F0 s72 [Ck.emp, Ck.ov b2 [.int .i64 u70.1, .int .i64 u70.2.1, .slice A71 u70.2.2.1.length c71, .int .i64 u70.2.2.2.1, .int .i64 u70.2.2.2.2] 55, Ck.ov b3 [.int .i64 0, .int .i64 0, .slice none 0 0, .int .i64 0, .int .i64 0] 55, Ck.ol OI 3 A71 c71 u70.2.2.1] := hH'
          clear hH'
          try dsimp only [putL, setL, evL, getL]
          refine HL_nil ?_
          exact hK4 _ _ ⟨u70.1, u70.2.1, u70.2.2.1, A71, c71, u70.2.2.2.1, u70.2.2.2.2, H, rfl, hH.sel [3, 1, 2] (by decide)⟩
        · replace H := iteF hb69 H
          refine HT_false (congrArg Value.bool hb69) ?_
          refine HT_seq_k ?_
          intro K73 hK73
          refine HT_region ?_
          refine HL_cons rfl ?_
          refine o_move ?_
          try dsimp only [putL, setL, evL, getL]
          refine HL_cons rfl ?_
          refine o_bin rfl rfl rfl ?_
          try dsimp only [putL, setL, evL, getL]
          refine HL_cons rfl ?_
          refine o_assign ?_
          try dsimp only [putL, setL, evL, getL]
          refine HL_nil ?_
          refine hK73 _ _ ?_
          rcases Bool.eq_false_or_eq_true (p1 == 12) with hb74 | hb74
          · replace H := iteT hb74 H
            refine HT_true (congrArg Value.bool hb74) ?_
            refine HT_region ?_
            refine HL_cons rfl ?_
            refine o_faddr' (ft := 3) (off := 0) rfl Try.underlying55 rfl tI3 (by decide) ?_
            try dsimp only [putL, setL, evL, getL]
            refine HL_cons rfl ?_
            refine o_load' rfl Try.underlying3 rfl (hH.hasv 1 rfl rfl) ?_
            try dsimp only [putL, setL, evL, getL]
            refine HL_cons rfl ?_
            refine o_faddr' (ft := 3) (off := 1) rfl Try.underlying55 rfl tI3 (by decide) ?_
            try dsimp only [putL, setL, evL, getL]
            refine HL_cons rfl ?_
            refine o_load' rfl Try.underlying3 rfl (hH.hasv 1 rfl rfl) ?_
            try dsimp only [putL, setL, evL, getL]
            obtain ⟨u75, hu75, H⟩ := headE H
            refine HL_cons rfl ?_
            refine o_call (args := #[.int .i64 p0_0, .int .i64 p0_1]) Try.func159 rfl rfl rfl (spec_l16New.ok sb s3 no p0_0 p0_1 (Hp.own hH.bs) _ hu75) ?_
            rintro _ s75 ⟨A76, c76, rfl, hD⟩
            replace hH := hH.back0 hD (Up.refl _ _ _)
            clear hD
            dsimp only [addC, setC, rmC, selC, getC] at hH
            try dsimp only [putL, setL, evL, getL]
            refine HL_cons rfl ?_
            refine o_stvH (vs := [.int .i64 u75.1, .int .i64 u75.2.1, .slice A76 u75.2.2.1.length c76, .int .i64 u75.2.2.2.1, .int .i64 u75.2.2.2.2]) (us' := [.int .i64 u75.1, .int .i64 u75.2.1, .slice A76 u75.2.2.1.length c76, .int .i64 u75.2.2.2.1, .int .i64 u75.2.2.2.2]) hH 1 rfl rfl rfl rfl rfl tI55 rfl (List.cons_ne_nil _ _) rfl rfl rfl ?_
            intro s77 hH'
            replace hH : Hp sb s F0 s77 [Ck.ol OI 3 A0_2p c0_2p p0_2, Ck.ov b2 [.int .i64 u75.1, .int .i64 u75.2.1, .slice A76 u75.2.2.1.length c76, .int .i64 u75.2.2.2.1, .int .i64 u75.2.2.2.2] 55, Ck.ov b3 [.int .i64 0, .int .i64 0, .slice none 0 0, .int .i64 0, .int .i64 0] 55, Ck.ol OI 3 A76 c76 u75.2.2.1] := hH'
            clear hH'
            try dsimp only [putL, setL, evL, getL]
            refine HL_nil ?_
            exact hK4 _ _ ⟨u75.1, u75.2.1, u75.2.2.1, A76, c76, u75.2.2.2.1, u75.2.2.2.2, H, rfl, hH.sel [3, 1, 2] (by decide)⟩
          · replace H := iteF hb74 H
            refine HT_false (congrArg Value.bool hb74) ?_
            refine HT_seq_k ?_
            intro K78 hK78
            refine HT_region ?_
            refine HL_cons rfl ?_
            refine o_move ?_
            try dsimp only [putL, setL, evL, getL]
            refine HL_cons rfl ?_
            refine o_bin rfl rfl rfl ?_
            try dsimp only [putL, setL, evL, getL]
            refine HL_cons rfl ?_
            refine o_assign ?_
            try dsimp only [putL, setL, evL, getL]
            refine HL_nil ?_
            refine hK78 _ _ ?_
            rcases Bool.eq_false_or_eq_true (p1 == 13) with hb79 | hb79
            · replace H := iteT hb79 H
              refine HT_true (congrArg Value.bool hb79) ?_
              refine HT_region ?_
              refine HL_cons rfl ?_
              refine o_faddr' (ft := 3) (off := 3) rfl Try.underlying55 rfl tI3 (by decide) ?_
              try dsimp only [putL, setL, evL, getL]
              refine HL_cons rfl ?_
              refine o_stvH (vs := [.int .i64 0]) (us' := [.int .i64 p0_0, .int .i64 p0_1, .slice A0_2p p0_2.length c0_2p, .int .i64 0, .int .i64 p0_4]) hH 1 rfl rfl rfl rfl rfl tI3 rfl (List.cons_ne_nil _ _) rfl rfl rfl ?_
              intro s80 hH'
              replace hH : Hp sb s F0 s80 [Ck.ol OI 3 A0_2p c0_2p p0_2, Ck.ov b2 [.int .i64 p0_0, .int .i64 p0_1, .slice A0_2p p0_2.length c0_2p, .int .i64 0, .int .i64 p0_4] 55, Ck.ov b3 [.int .i64 0, .int .i64 0, .slice none 0 0, .int .i64 0, .int .i64 0] 55] := hH'
              clear hH'
              try dsimp only [putL, setL, evL, getL]
              refine HL_nil ?_
              exact hK4 _ _ ⟨p0_0, p0_1, p0_2, A0_2p, c0_2p, 0, p0_4, H, rfl, hH⟩
            · replace H := iteF hb79 H
              refine HT_false (congrArg Value.bool hb79) ?_
              refine HT_seq_k ?_
              intro K81 hK81
              refine HT_region ?_
              refine HL_cons rfl ?_
              refine o_move ?_
              try dsimp only [putL, setL, evL, getL]
              refine HL_cons rfl ?_
              refine o_bin rfl rfl rfl ?_
              try dsimp only [putL, setL, evL, getL]
              refine HL_cons rfl ?_
              refine o_assign ?_
              try dsimp only [putL, setL, evL, getL]
              refine HL_nil ?_
              refine hK81 _ _ ?_
              rcases Bool.eq_false_or_eq_true (decide (p1 ≥ 32)) with hb82 | hb82
              · replace H := iteT hb82 H
                refine HT_true (congrArg Value.bool hb82) ?_
                refine joinH H fun G83 hG83 H => ?_
                refine HT_joinK (fun l' s' => ∃ (x89 : Int) (x90 : Int) (x91 : List (Int)) (A91 : Option Addr) (c91 : Nat) (x92 : Int) (x93 : Int), G83 (x89, x90, x91, x92, x93) = some r ∧ l' = [.agg #[.int .i64 p0_0, .int .i64 p0_1, .slice A0_2p p0_2.length c0_2p, .int .i64 p0_3, .int .i64 p0_4], .int .i64 p1, .pointer (some ⟨b2, 0, none⟩), undef, .pointer (some ⟨b3, 0, none⟩), .bool (p1 == 8), .int .i64 p1, .bool (p1 == 8), undef, undef, undef, undef, undef, .bool (p1 == 9), .int .i64 p1, .bool (p1 == 9), undef, undef, undef, undef, undef, undef, undef, undef, undef, .bool (p1 == 10), .int .i64 p1, .bool (p1 == 10), undef, undef, .bool (p1 == 12), .int .i64 p1, .bool (p1 == 12), undef, undef, undef, undef, undef, .bool (p1 == 13), .int .i64 p1, .bool (p1 == 13), undef, .bool (decide (p1 ≥ 32)), .int .i64 p1, .bool (decide (p1 ≥ 32)), getL l' 45, getL l' 46, getL l' 47, getL l' 48, getL l' 49, getL l' 50, getL l' 51, undef, undef, undef, undef, undef, undef, undef, undef, undef, undef, undef, undef, undef, undef, undef, undef, undef, undef, undef, undef, undef] ∧ Hp sb s F0 s' [Ck.ol OI 3 A91 c91 x91, Ck.ov b2 [.int .i64 x89, .int .i64 x90, .slice A91 x91.length c91, .int .i64 x92, .int .i64 x93] 55, Ck.ov b3 [.int .i64 0, .int .i64 0, .slice none 0 0, .int .i64 0, .int .i64 0] 55]) ?_ ?_
                · intro K83 hK83
                  refine HT_seq_k ?_
                  intro K94 hK94
                  refine HT_region ?_
                  refine HL_cons rfl ?_
                  refine o_faddr' (ft := 3) (off := 3) rfl Try.underlying55 rfl tI3 (by decide) ?_
                  try dsimp only [putL, setL, evL, getL]
                  refine HL_cons rfl ?_
                  refine o_load' rfl Try.underlying3 rfl (hH.hasv 1 rfl rfl) ?_
                  try dsimp only [putL, setL, evL, getL]
                  refine HL_cons rfl ?_
                  refine o_faddr' (ft := 3) (off := 0) rfl Try.underlying55 rfl tI3 (by decide) ?_
                  try dsimp only [putL, setL, evL, getL]
                  refine HL_cons rfl ?_
                  refine o_load' rfl Try.underlying3 rfl (hH.hasv 1 rfl rfl) ?_
                  try dsimp only [putL, setL, evL, getL]
                  refine HL_cons rfl ?_
                  refine o_bin rfl rfl rfl ?_
                  try dsimp only [putL, setL, evL, getL]
                  refine HL_nil ?_
                  refine hK94 _ _ ?_
                  rcases Bool.eq_false_or_eq_true (p0_3 == p0_0) with hb95 | hb95
                  · replace H := iteT hb95 H
                    refine HT_true (congrArg Value.bool hb95) ?_
                    refine HT_region ?_
                    refine HL_cons rfl ?_
                    refine o_loads' [.int .i64 p0_0, .int .i64 p0_1, .slice A0_2p p0_2.length c0_2p, .int .i64 p0_3, .int .i64 p0_4] rfl Try.underlying55 rfl tI55 rfl (hH.partv 1 rfl (0) [.int .i64 p0_0, .int .i64 p0_1, .slice A0_2p p0_2.length c0_2p, .int .i64 p0_3, .int .i64 p0_4] rfl) ?_
                    try dsimp only [putL, setL, evL, getL]
                    obtain ⟨u96, hu96, H⟩ := headE H
                    obtain ⟨F1, hA, hB⟩ := hH.take [0] (by decide)
                    dsimp only [addC, setC, rmC, selC, getC] at hA
                    refine HL_cons rfl ?_
                    refine o_call (args := #[.agg #[.int .i64 p0_0, .int .i64 p0_1, .slice A0_2p p0_2.length c0_2p, .int .i64 p0_3, .int .i64 p0_4]]) Try.func158 rfl rfl rfl (spec_l16Down.ok sb s3 F1 p0_0 p0_1 A0_2p c0_2p p0_2 p0_3 p0_4 hA _ hu96) ?_
                    rintro _ s96 ⟨A97, c97, rfl, hD⟩
                    replace hH := hB _ _ _ (Up.refl _ _ _) hD
                    clear hD hA hB
                    dsimp only [addC, setC, rmC, selC, getC] at hH
                    try dsimp only [putL, setL, evL, getL]
                    refine HL_cons rfl ?_
                    refine o_stvH (vs := [.int .i64 u96.1, .int .i64 u96.2.1, .slice A97 u96.2.2.1.length c97, .int .i64 u96.2.2.2.1, .int .i64 u96.2.2.2.2]) (us' := [.int .i64 u96.1, .int .i64 u96.2.1, .slice A97 u96.2.2.1.length c97, .int .i64 u96.2.2.2.1, .int .i64 u96.2.2.2.2]) hH 1 rfl rfl rfl rfl rfl tI55 rfl (List.cons_ne_nil _ _) rfl rfl rfl ?_
                    intro s98 hH'
                    replace hH : Hp sb s F0 s98 [Ck.emp, Ck.ov b2 [.int .i64 u96.1, .int .i64 u96.2.1, .slice A97 u96.2.2.1.length c97, .int .i64 u96.2.2.2.1, .int .i64 u96.2.2.2.2] 55, Ck.ov b3 [.int .i64 0, .int .i64 0, .slice none 0 0, .int .i64 0, .int .i64 0] 55, Ck.ol OI 3 A97 c97 u96.2.2.1] := hH'
                    clear hH'
                    try dsimp only [putL, setL, evL, getL]
                    refine HL_nil ?_
                    exact hK83 _ _ ⟨u96.1, u96.2.1, u96.2.2.1, A97, c97, u96.2.2.2.1, u96.2.2.2.2, H, rfl, hH.sel [3, 1, 2] (by decide)⟩
                  · replace H := iteF hb95 H
                    refine HT_false (congrArg Value.bool hb95) ?_
                    refine HT_skip ?_
                    exact hK83 _ _ ⟨p0_0, p0_1, p0_2, A0_2p, c0_2p, p0_3, p0_4, H, rfl, hH⟩
                · rintro l' s99 ⟨x89, x90, x91, A91, c91, x92, x93, H, hl, hH⟩
                  generalize getL l' 45 = j45, getL l' 46 = j46, getL l' 47 = j47, getL l' 48 = j48, getL l' 49 = j49, getL l' 50 = j50, getL l' 51 = j51 at hl
                  subst hl
                  replace H := hG83 _ H
                  try dsimp only at H
                  refine HT_seq_k ?_
                  intro K100 hK100
                  refine HT_region ?_
                  refine HL_cons rfl ?_
                  refine o_faddr' (ft := 22) (off := 2) rfl Try.underlying55 rfl tI22 (by decide) ?_
                  try dsimp only [putL, setL, evL, getL]
                  refine HL_cons rfl ?_
                  refine o_load' rfl Try.underlying22 rfl (hH.hasv 1 rfl rfl) ?_
                  try dsimp only [putL, setL, evL, getL]
                  obtain ⟨u101, hu101, H⟩ := headE H
                  refine HL_cons rfl ?_
                  refine o_call (args := #[.slice A91 x91.length c91]) Try.func91 rfl rfl rfl (spec_l1Own.ok s99 s99 no A91 c91 x91 (hH.rd 0 rfl) (Hp.own (Bs.refl s99)) _ hu101) ?_
                  rintro _ s101 ⟨A102, c102, rfl, hD⟩
                  replace hH := hH.back0T hD
                  clear hD
                  dsimp only [addC, setC, rmC, selC, getC] at hH
                  try dsimp only [putL, setL, evL, getL]
                  refine HL_cons rfl ?_
                  refine o_faddr' (ft := 22) (off := 2) rfl Try.underlying55 rfl tI22 (by decide) ?_
                  try dsimp only [putL, setL, evL, getL]
                  refine HL_cons rfl ?_
                  refine o_stvH (vs := [.slice A102 u101.length c102]) (us' := [.int .i64 x89, .int .i64 x90, .slice A102 u101.length c102, .int .i64 x92, .int .i64 x93]) hH 1 rfl rfl rfl rfl rfl tI22 rfl (List.cons_ne_nil _ _) rfl rfl rfl ?_
                  intro s103 hH'
                  replace hH : Hp sb s F0 s103 [Ck.ol OI 3 A91 c91 x91, Ck.ov b2 [.int .i64 x89, .int .i64 x90, .slice A102 u101.length c102, .int .i64 x92, .int .i64 x93] 55, Ck.ov b3 [.int .i64 0, .int .i64 0, .slice none 0 0, .int .i64 0, .int .i64 0] 55, Ck.ol OI 3 A102 c102 u101] := hH'
                  clear hH'
                  try dsimp only [putL, setL, evL, getL]
                  refine HL_nil ?_
                  refine hK100 _ _ ?_
                  refine HT_seq_k ?_
                  intro K104 hK104
                  refine HT_region ?_
                  refine HL_cons rfl ?_
                  refine o_faddr' (ft := 22) (off := 2) rfl Try.underlying55 rfl tI22 (by decide) ?_
                  try dsimp only [putL, setL, evL, getL]
                  refine HL_cons rfl ?_
                  refine o_load' rfl Try.underlying22 rfl (hH.hasv 1 rfl rfl) ?_
                  try dsimp only [putL, setL, evL, getL]
                  refine HL_cons rfl ?_
                  refine o_faddr' (ft := 3) (off := 4) rfl Try.underlying55 rfl tI3 (by decide) ?_
                  try dsimp only [putL, setL, evL, getL]
                  refine HL_cons rfl ?_
                  refine o_load' rfl Try.underlying3 rfl (hH.hasv 1 rfl rfl) ?_
                  try dsimp only [putL, setL, evL, getL]
                  refine HL_cons rfl ?_
                  refine o_faddr' (ft := 3) (off := 0) rfl Try.underlying55 rfl tI3 (by decide) ?_
                  try dsimp only [putL, setL, evL, getL]
                  refine HL_cons rfl ?_
                  refine o_load' rfl Try.underlying3 rfl (hH.hasv 1 rfl rfl) ?_
                  try dsimp only [putL, setL, evL, getL]
                  refine HL_cons rfl ?_
                  refine o_bin rfl rfl rfl ?_
                  try dsimp only [putL, setL, evL, getL]
                  refine HL_cons rfl ?_
                  refine o_faddr' (ft := 3) (off := 3) rfl Try.underlying55 rfl tI3 (by decide) ?_
                  try dsimp only [putL, setL, evL, getL]
                  refine HL_cons rfl ?_
                  refine o_load' rfl Try.underlying3 rfl (hH.hasv 1 rfl rfl) ?_
                  try dsimp only [putL, setL, evL, getL]
                  refine HL_cons rfl ?_
                  refine o_bin rfl rfl rfl ?_
                  try dsimp only [putL, setL, evL, getL]
                  refine HL_cons rfl ?_
                  refine o_move ?_
                  try dsimp only [putL, setL, evL, getL]
                  obtain ⟨u105, hu105, H⟩ := headE H
                  obtain ⟨b105, o105, cs105, hA105, hr105, hh105, hel105⟩ := hH.elo 3 rfl hu105
                  obtain rfl := hr105
                  refine HL_cons rfl ?_
                  refine hel105 s103 rfl rfl Try.underlying22 tI3 ?_
                  try dsimp only [putL, setL, evL, getL]
                  obtain ⟨x106, hx106, H⟩ := headE H
                  refine HL_cons rfl ?_
                  refine o_setF (vs := [.int .i64 p1]) (u := p1) hH 3 rfl rfl rfl rfl rfl tI3 hA105 hx106 (Ent.own (Ent.flat rfl)) ?_
                  intro s106 hH'
                  have hl106 := st?_len hx106
                  replace hH : Hp sb s F0 s106 [Ck.ol OI 3 A91 c91 x91, Ck.ov b2 [.int .i64 x89, .int .i64 x90, .slice A102 u101.length c102, .int .i64 x92, .int .i64 x93] 55, Ck.ov b3 [.int .i64 0, .int .i64 0, .slice none 0 0, .int .i64 0, .int .i64 0] 55, Ck.ol OI 3 A102 c102 x106] := hH'
                  clear hH'
                  try dsimp only [putL, setL, evL, getL]
                  refine HL_nil ?_
                  refine hK104 _ _ ?_
                  refine HT_region ?_
                  refine HL_cons rfl ?_
                  refine o_faddr' (ft := 3) (off := 3) rfl Try.underlying55 rfl tI3 (by decide) ?_
                  try dsimp only [putL, setL, evL, getL]
                  refine HL_cons rfl ?_
                  refine o_load' rfl Try.underlying3 rfl (hH.hasv 1 rfl rfl) ?_
                  try dsimp only [putL, setL, evL, getL]
                  refine HL_cons rfl ?_
                  refine o_bin rfl rfl rfl ?_
                  try dsimp only [putL, setL, evL, getL]
                  refine HL_cons rfl ?_
                  refine o_faddr' (ft := 3) (off := 3) rfl Try.underlying55 rfl tI3 (by decide) ?_
                  try dsimp only [putL, setL, evL, getL]
                  refine HL_cons rfl ?_
                  refine o_stvH (vs := [.int .i64 (IntKind.i64.wrap (x92 + 1))]) (us' := [.int .i64 x89, .int .i64 x90, .slice A102 u101.length c102, .int .i64 (IntKind.i64.wrap (x92 + 1)), .int .i64 x93]) hH 1 rfl rfl rfl rfl rfl tI3 rfl (List.cons_ne_nil _ _) rfl rfl rfl ?_
                  intro s107 hH'
                  replace hH : Hp sb s F0 s107 [Ck.ol OI 3 A91 c91 x91, Ck.ov b2 [.int .i64 x89, .int .i64 x90, .slice A102 u101.length c102, .int .i64 (IntKind.i64.wrap (x92 + 1)), .int .i64 x93] 55, Ck.ov b3 [.int .i64 0, .int .i64 0, .slice none 0 0, .int .i64 0, .int .i64 0] 55, Ck.ol OI 3 A102 c102 x106] := hH'
                  clear hH'
                  try dsimp only [putL, setL, evL, getL]
                  refine HL_nil ?_
                  exact hK4 _ _ ⟨x89, x90, x106, A102, c102, IntKind.i64.wrap (x92 + 1), x93, H, (by first | (rw [hl106]; first | done | rfl) | rfl), (by first | exact hH.sel [3, 1, 2] (by decide) | (rw [hl106]; exact hH.sel [3, 1, 2] (by decide)))⟩
              · replace H := iteF hb82 H
                refine HT_false (congrArg Value.bool hb82) ?_
                refine HT_skip ?_
                exact hK4 _ _ ⟨p0_0, p0_1, p0_2, A0_2p, c0_2p, p0_3, p0_4, H, rfl, hH⟩
  · rintro l' s108 ⟨x54, x55, x56, A56, c56, x57, x58, H, hl, hH⟩
    generalize getL l' 5 = j5, getL l' 6 = j6, getL l' 7 = j7, getL l' 8 = j8, getL l' 9 = j9, getL l' 10 = j10, getL l' 11 = j11, getL l' 12 = j12, getL l' 13 = j13, getL l' 14 = j14, getL l' 15 = j15, getL l' 16 = j16, getL l' 17 = j17, getL l' 18 = j18, getL l' 19 = j19, getL l' 20 = j20, getL l' 21 = j21, getL l' 22 = j22, getL l' 23 = j23, getL l' 24 = j24, getL l' 25 = j25, getL l' 26 = j26, getL l' 27 = j27, getL l' 28 = j28, getL l' 29 = j29, getL l' 30 = j30, getL l' 31 = j31, getL l' 32 = j32, getL l' 33 = j33, getL l' 34 = j34, getL l' 35 = j35, getL l' 36 = j36, getL l' 37 = j37, getL l' 38 = j38, getL l' 39 = j39, getL l' 40 = j40, getL l' 41 = j41, getL l' 42 = j42, getL l' 43 = j43, getL l' 44 = j44, getL l' 45 = j45, getL l' 46 = j46, getL l' 47 = j47, getL l' 48 = j48, getL l' 49 = j49, getL l' 50 = j50, getL l' 51 = j51, getL l' 52 = j52, getL l' 53 = j53, getL l' 54 = j54, getL l' 55 = j55, getL l' 56 = j56, getL l' 57 = j57, getL l' 58 = j58, getL l' 59 = j59, getL l' 60 = j60, getL l' 61 = j61, getL l' 62 = j62, getL l' 63 = j63, getL l' 64 = j64, getL l' 65 = j65, getL l' 66 = j66, getL l' 67 = j67, getL l' 68 = j68, getL l' 69 = j69, getL l' 70 = j70, getL l' 71 = j71 at hl
    subst hl
    replace H := hG4 _ H
    try dsimp only at H
    refine HT_seq_k ?_
    intro K109 hK109
    refine HT_region ?_
    refine HL_cons rfl ?_
    refine o_loads' [.int .i64 x54, .int .i64 x55, .slice A56 x56.length c56, .int .i64 x57, .int .i64 x58] rfl Try.underlying55 rfl tI55 rfl (hH.partv 1 rfl (0) [.int .i64 x54, .int .i64 x55, .slice A56 x56.length c56, .int .i64 x57, .int .i64 x58] rfl) ?_
    try dsimp only [putL, setL, evL, getL]
    refine HL_cons rfl ?_
    refine o_stvH (vs := [.int .i64 x54, .int .i64 x55, .slice A56 x56.length c56, .int .i64 x57, .int .i64 x58]) (us' := [.int .i64 x54, .int .i64 x55, .slice A56 x56.length c56, .int .i64 x57, .int .i64 x58]) hH 2 rfl rfl rfl rfl rfl tI55 rfl (List.cons_ne_nil _ _) rfl rfl rfl ?_
    intro s110 hH'
    replace hH : Hp sb s F0 s110 [Ck.ol OI 3 A56 c56 x56, Ck.ov b2 [.int .i64 x54, .int .i64 x55, .slice A56 x56.length c56, .int .i64 x57, .int .i64 x58] 55, Ck.ov b3 [.int .i64 x54, .int .i64 x55, .slice A56 x56.length c56, .int .i64 x57, .int .i64 x58] 55] := hH'
    clear hH'
    try dsimp only [putL, setL, evL, getL]
    refine HL_nil ?_
    refine hK109 _ _ ?_
    refine HT_ret ?_
    obtain rfl := Option.some.inj (show some _ = some r from H)
    exact hQr _ _ [.agg #[.int .i64 x54, .int .i64 x55, .slice A56 x56.length c56, .int .i64 x57, .int .i64 x58]] ⟨ResV.cells rfl Try.underlying55 rfl tI55 (hH.var 2 rfl) rfl, trivial⟩ ⟨A56, c56, rfl, hH.sel [0] (by decide)⟩
def spec_PutRune.f (p0_0 : Int) (p0_1 : Int) (p0_2 : List (Int)) (p0_3 : Int) (p0_4 : Int) (p1 : Int) : Option (Int × Int × (List (Int)) × Int × Int × Bool) := ((spec_GoodScreen.f p0_0 p0_1 p0_2 p0_3 p0_4).bind fun u23 => if (!u23) = true then (some true) else ((spec_GoodRune.f p1).bind fun u25 => some (!u25))).bind fun (o : Bool) => match o with | x22 => (if x22 = true then (some (0, 0, [], 0, 0, false)) else ((spec_l16Put.f p0_0 p0_1 p0_2 p0_3 p0_4 p1).bind fun u31 => (spec_l1Own.f u31.2.2.1).bind fun u36 => some (u31.1, u31.2.1, u36, u31.2.2.2.1, u31.2.2.2.2, true)))
def spec_PutRune.post (sb s : St) (F0 : Fp) (r : Int × Int × (List (Int)) × Int × Int × Bool) : Value → St → Prop := fun v s' => ∃ (A2 : Option Addr) (c2 : Nat), v = .tuple #[.agg #[.int .i64 r.1, .int .i64 r.2.1, .slice A2 r.2.2.1.length c2, .int .i64 r.2.2.2.1, .int .i64 r.2.2.2.2.1], .bool r.2.2.2.2.2] ∧ Hp sb s F0 s' [Ck.ol OI 3 A2 c2 r.2.2.1]
set_option maxRecDepth 100000 in
set_option maxHeartbeats 4000000 in
theorem spec_PutRune.ok (sb s : St) (F0 : Fp) (p0_0 : Int) (p0_1 : Int) (A0_2p : Option Addr) (c0_2p : Nat) (p0_2 : List (Int)) (p0_3 : Int) (p0_4 : Int) (p1 : Int) (hH : Hp sb s F0 s [Ck.ol OI 3 A0_2p c0_2p p0_2]) (r : Int × Int × (List (Int)) × Int × Int × Bool) (H : spec_PutRune.f p0_0 p0_1 p0_2 p0_3 p0_4 p1 = some r) : GCall Try.prog 74 #[.agg #[.int .i64 p0_0, .int .i64 p0_1, .slice A0_2p p0_2.length c0_2p, .int .i64 p0_3, .int .i64 p0_4], .int .i64 p1] s (spec_PutRune.post sb s F0 r) := by
  refine GCall_ofk [.cell 4 55, .tmp 5] [.agg #[.int .i64 p0_0, .int .i64 p0_1, .slice A0_2p p0_2.length c0_2p, .int .i64 p0_3, .int .i64 p0_4], .int .i64 p1, undef, undef, undef, undef, undef, undef, undef, undef, undef, undef, undef, undef, undef, undef, undef, undef, undef, undef, undef, undef, undef, undef] Try.func74 rfl rfl rfl ?_
  intro w Q hQr hQn hQp
  replace H := topE H
  unfold spec_PutRune.f at H
  refine HT_seq_k ?_
  intro K1 hK1
  refine HT_region ?_
  refine HL_cons rfl ?_
  refine o_boxH hH rfl ?_
  intro b2 s2 hH' hG
  replace hH : Hp sb s F0 s2 [Ck.ol OI 3 A0_2p c0_2p p0_2, Ck.ov b2 [.int .i64 p0_0, .int .i64 p0_1, .slice A0_2p p0_2.length c0_2p, .int .i64 p0_3, .int .i64 p0_4] 55] := hH'
  clear hH' hG
  try dsimp only [putL, setL, evL, getL]
  refine HL_cons rfl ?_
  refine o_allocH hH tI55 ?_
  intro b3 s3 hH' hG
  replace hH : Hp sb s F0 s3 [Ck.ol OI 3 A0_2p c0_2p p0_2, Ck.ov b2 [.int .i64 p0_0, .int .i64 p0_1, .slice A0_2p p0_2.length c0_2p, .int .i64 p0_3, .int .i64 p0_4] 55, Ck.ov b3 [.int .i64 0, .int .i64 0, .slice none 0 0, .int .i64 0, .int .i64 0] 55] := hH'
  clear hH' hG
  try dsimp only [putL, setL, evL, getL]
  refine HL_cons rfl ?_
  refine o_assign ?_
  try dsimp only [putL, setL, evL, getL]
  refine HL_nil ?_
  refine hK1 _ _ ?_
  refine HT_seq_k ?_
  intro K17 hK17
  refine joinH H fun G18 hG18 H => ?_
  refine HT_joinK (fun l' s' => ∃ (x22 : Bool), G18 x22 = some r ∧ l' = [.agg #[.int .i64 p0_0, .int .i64 p0_1, .slice A0_2p p0_2.length c0_2p, .int .i64 p0_3, .int .i64 p0_4], .int .i64 p1, .pointer (some ⟨b2, 0, none⟩), undef, .pointer (some ⟨b3, 0, none⟩), .bool false, undef, getL l' 7, getL l' 8, getL l' 9, getL l' 10, getL l' 11, getL l' 12, getL l' 13, .bool x22, undef, undef, undef, undef, undef, undef, undef, undef, undef] ∧ Hp sb s F0 s' [Ck.ol OI 3 A0_2p c0_2p p0_2, Ck.ov b2 [.int .i64 p0_0, .int .i64 p0_1, .slice A0_2p p0_2.length c0_2p, .int .i64 p0_3, .int .i64 p0_4] 55, Ck.ov b3 [.int .i64 0, .int .i64 0, .slice none 0 0, .int .i64 0, .int .i64 0] 55]) ?_ ?_
  · intro K18 hK18
    refine HT_region ?_
    refine HL_cons rfl ?_
    refine o_loads' [.int .i64 p0_0, .int .i64 p0_1, .slice A0_2p p0_2.length c0_2p, .int .i64 p0_3, .int .i64 p0_4] rfl Try.underlying55 rfl tI55 rfl (hH.partv 1 rfl (0) [.int .i64 p0_0, .int .i64 p0_1, .slice A0_2p p0_2.length c0_2p, .int .i64 p0_3, .int .i64 p0_4] rfl) ?_
    try dsimp only [putL, setL, evL, getL]
    obtain ⟨u23, hu23, H⟩ := headE H
    refine HL_cons rfl ?_
    refine o_call (args := #[.agg #[.int .i64 p0_0, .int .i64 p0_1, .slice A0_2p p0_2.length c0_2p, .int .i64 p0_3, .int .i64 p0_4]]) Try.func101 rfl rfl rfl (spec_GoodScreen.ok s3 s3 no p0_0 p0_1 A0_2p c0_2p p0_2 p0_3 p0_4 (hH.rd 0 rfl) (Hp.own (Bs.refl s3)) _ hu23) ?_
    rintro _ s23 ⟨rfl, hD⟩
    replace hH := hH.back0T hD
    clear hD
    dsimp only [addC, setC, rmC, selC, getC] at hH
    try dsimp only [putL, setL, evL, getL]
    refine HL_cons rfl ?_
    refine o_not rfl ?_
    try dsimp only [putL, setL, evL, getL]
    refine HL_cons rfl ?_
    refine o_move ?_
    try dsimp only [putL, setL, evL, getL]
    rcases Bool.eq_false_or_eq_true (!u23) with hb24 | hb24
    · replace H := iteT hb24 H
      refine HL_skip ?_ ?_
      · exact wantF (j := 3) (b := false) (t := 10) (c := !u23) rfl rfl rfl rfl hb24
      try dsimp only [putL, setL, evL, getL]
      refine HL_skip ?_ ?_
      · exact wantF (j := 3) (b := false) (t := 10) (c := !u23) rfl rfl rfl rfl hb24
      try dsimp only [putL, setL, evL, getL]
      refine HL_skip ?_ ?_
      · exact wantF (j := 3) (b := false) (t := 10) (c := !u23) rfl rfl rfl rfl hb24
      try dsimp only [putL, setL, evL, getL]
      refine HL_cons rfl ?_
      refine o_pickT rfl hb24 ?_
      try dsimp only [putL, setL, evL, getL]
      refine HL_nil ?_
      exact hK18 _ _ ⟨true, H, rfl, hH⟩
    · replace H := iteF hb24 H
      refine HL_want ?_ ?_
      · exact wantT (j := 3) (b := false) (t := 10) (c := !u23) rfl rfl rfl rfl hb24
      refine o_move ?_
      try dsimp only [putL, setL, evL, getL]
      obtain ⟨u25, hu25, H⟩ := headE H
      refine HL_want ?_ ?_
      · exact wantT (j := 3) (b := false) (t := 10) (c := !u23) rfl rfl rfl rfl hb24
      refine o_call (args := #[.int .i64 p1]) Try.func135 rfl rfl rfl (spec_GoodRune.ok sb s23 no p1 (Hp.own hH.bs) _ hu25) ?_
      rintro _ s25 ⟨rfl, hD⟩
      replace hH := hH.back0 hD (Up.refl _ _ _)
      clear hD
      dsimp only [addC, setC, rmC, selC, getC] at hH
      try dsimp only [putL, setL, evL, getL]
      refine HL_want ?_ ?_
      · exact wantT (j := 3) (b := false) (t := 10) (c := !u23) rfl rfl rfl rfl hb24
      refine o_not rfl ?_
      try dsimp only [putL, setL, evL, getL]
      refine HL_cons rfl ?_
      refine o_pickF rfl hb24 ?_
      try dsimp only [putL, setL, evL, getL]
      refine HL_nil ?_
      exact hK18 _ _ ⟨!u25, H, rfl, hH⟩
  · rintro l' s26 ⟨x22, H, hl, hH⟩
    generalize getL l' 7 = j7, getL l' 8 = j8, getL l' 9 = j9, getL l' 10 = j10, getL l' 11 = j11, getL l' 12 = j12, getL l' 13 = j13 at hl
    subst hl
    replace H := hG18 _ H
    try dsimp only at H
    rcases Bool.eq_false_or_eq_true x22 with hb27 | hb27
    · replace H := iteT hb27 H
      refine HT_true (congrArg Value.bool hb27) ?_
      refine HT_seq_k ?_
      intro K28 hK28
      refine HT_region ?_
      refine HL_cons rfl ?_
      refine o_build (pl := [(0, 1), (1, 1), (2, 1), (3, 1), (4, 1)]) (cs := #[.int .i64 0, .int .i64 0, .slice none 0 0, .int .i64 0, .int .i64 0]) Try.underlying55 tI55 (by kernel_rfl) (by kernel_rfl) rfl ?_
      try dsimp only [putL, setL, evL, getL]
      refine HL_cons rfl ?_
      refine o_stvH (vs := [.int .i64 0, .int .i64 0, .slice none 0 0, .int .i64 0, .int .i64 0]) (us' := [.int .i64 0, .int .i64 0, .slice none 0 0, .int .i64 0, .int .i64 0]) hH 2 rfl rfl rfl rfl rfl tI55 rfl (List.cons_ne_nil _ _) rfl rfl rfl ?_
      intro s29 hH'
      replace hH : Hp sb s F0 s29 [Ck.ol OI 3 A0_2p c0_2p p0_2, Ck.ov b2 [.int .i64 p0_0, .int .i64 p0_1, .slice A0_2p p0_2.length c0_2p, .int .i64 p0_3, .int .i64 p0_4] 55, Ck.ov b3 [.int .i64 0, .int .i64 0, .slice none 0 0, .int .i64 0, .int .i64 0] 55] := hH'
      clear hH'
      try dsimp only [putL, setL, evL, getL]
      refine HL_cons rfl ?_
      refine o_assign ?_
      try dsimp only [putL, setL, evL, getL]
      refine HL_nil ?_
      refine hK28 _ _ ?_
      refine HT_ret ?_
      obtain rfl := Option.some.inj (show some _ = some r from H)
      exact hQr _ _ [.agg #[.int .i64 0, .int .i64 0, .slice none 0 0, .int .i64 0, .int .i64 0], .bool false] ⟨ResV.cells rfl Try.underlying55 rfl tI55 (hH.var 2 rfl) rfl, rfl, trivial⟩ ⟨none, 0, rfl, (hH.nil (K := KI) OI 3).sel [3] (by decide)⟩
    · replace H := iteF hb27 H
      refine HT_false (congrArg Value.bool hb27) ?_
      refine HT_skip ?_
      refine hK17 _ _ ?_
      refine HT_seq_k ?_
      intro K30 hK30
      refine HT_region ?_
      refine HL_cons rfl ?_
      refine o_loads' [.int .i64 p0_0, .int .i64 p0_1, .slice A0_2p p0_2.length c0_2p, .int .i64 p0_3, .int .i64 p0_4] rfl Try.underlying55 rfl tI55 rfl (hH.partv 1 rfl (0) [.int .i64 p0_0, .int .i64 p0_1, .slice A0_2p p0_2.length c0_2p, .int .i64 p0_3, .int .i64 p0_4] rfl) ?_
      try dsimp only [putL, setL, evL, getL]
      refine HL_cons rfl ?_
      refine o_move ?_
      try dsimp only [putL, setL, evL, getL]
      obtain ⟨u31, hu31, H⟩ := headE H
      obtain ⟨F1, hA, hB⟩ := hH.take [0] (by decide)
      dsimp only [addC, setC, rmC, selC, getC] at hA
      refine HL_cons rfl ?_
      refine o_call (args := #[.agg #[.int .i64 p0_0, .int .i64 p0_1, .slice A0_2p p0_2.length c0_2p, .int .i64 p0_3, .int .i64 p0_4], .int .i64 p1]) Try.func136 rfl rfl rfl (spec_l16Put.ok sb s26 F1 p0_0 p0_1 A0_2p c0_2p p0_2 p0_3 p0_4 p1 hA _ hu31) ?_
      rintro _ s31 ⟨A32, c32, rfl, hD⟩
      replace hH := hB _ _ _ (Up.refl _ _ _) hD
      clear hD hA hB
      dsimp only [addC, setC, rmC, selC, getC] at hH
      try dsimp only [putL, setL, evL, getL]
      refine HL_cons rfl ?_
      refine o_allocH hH tI55 ?_
      intro b33 s33 hH' hG
      replace hH : Hp sb s F0 s33 [Ck.emp, Ck.ov b2 [.int .i64 p0_0, .int .i64 p0_1, .slice A0_2p p0_2.length c0_2p, .int .i64 p0_3, .int .i64 p0_4] 55, Ck.ov b3 [.int .i64 0, .int .i64 0, .slice none 0 0, .int .i64 0, .int .i64 0] 55, Ck.ol OI 3 A32 c32 u31.2.2.1, Ck.ov b33 [.int .i64 0, .int .i64 0, .slice none 0 0, .int .i64 0, .int .i64 0] 55] := hH'
      clear hH' hG
      try dsimp only [putL, setL, evL, getL]
      refine HL_cons rfl ?_
      refine o_stvH (vs := [.int .i64 u31.1, .int .i64 u31.2.1, .slice A32 u31.2.2.1.length c32, .int .i64 u31.2.2.2.1, .int .i64 u31.2.2.2.2]) (us' := [.int .i64 u31.1, .int .i64 u31.2.1, .slice A32 u31.2.2.1.length c32, .int .i64 u31.2.2.2.1, .int .i64 u31.2.2.2.2]) hH 4 rfl rfl rfl rfl rfl tI55 rfl (List.cons_ne_nil _ _) rfl rfl rfl ?_
      intro s34 hH'
      replace hH : Hp sb s F0 s34 [Ck.emp, Ck.ov b2 [.int .i64 p0_0, .int .i64 p0_1, .slice A0_2p p0_2.length c0_2p, .int .i64 p0_3, .int .i64 p0_4] 55, Ck.ov b3 [.int .i64 0, .int .i64 0, .slice none 0 0, .int .i64 0, .int .i64 0] 55, Ck.ol OI 3 A32 c32 u31.2.2.1, Ck.ov b33 [.int .i64 u31.1, .int .i64 u31.2.1, .slice A32 u31.2.2.1.length c32, .int .i64 u31.2.2.2.1, .int .i64 u31.2.2.2.2] 55] := hH'
      clear hH'
      try dsimp only [putL, setL, evL, getL]
      refine HL_nil ?_
      refine hK30 _ _ ?_
      refine HT_seq_k ?_
      intro K35 hK35
      refine HT_region ?_
      refine HL_cons rfl ?_
      refine o_faddr' (ft := 22) (off := 2) rfl Try.underlying55 rfl tI22 (by decide) ?_
      try dsimp only [putL, setL, evL, getL]
      refine HL_cons rfl ?_
      refine o_load' rfl Try.underlying22 rfl (hH.hasv 4 rfl rfl) ?_
      try dsimp only [putL, setL, evL, getL]
      obtain ⟨u36, hu36, H⟩ := headE H
      refine HL_cons rfl ?_
      refine o_call (args := #[.slice A32 u31.2.2.1.length c32]) Try.func91 rfl rfl rfl (spec_l1Own.ok s34 s34 no A32 c32 u31.2.2.1 (hH.rd 3 rfl) (Hp.own (Bs.refl s34)) _ hu36) ?_
      rintro _ s36 ⟨A37, c37, rfl, hD⟩
      replace hH := hH.back0T hD
      clear hD
      dsimp only [addC, setC, rmC, selC, getC] at hH
      try dsimp only [putL, setL, evL, getL]
      refine HL_cons rfl ?_
      refine o_faddr' (ft := 22) (off := 2) rfl Try.underlying55 rfl tI22 (by decide) ?_
      try dsimp only [putL, setL, evL, getL]
      refine HL_cons rfl ?_
      refine o_stvH (vs := [.slice A37 u36.length c37]) (us' := [.int .i64 u31.1, .int .i64 u31.2.1, .slice A37 u36.length c37, .int .i64 u31.2.2.2.1, .int .i64 u31.2.2.2.2]) hH 4 rfl rfl rfl rfl rfl tI22 rfl (List.cons_ne_nil _ _) rfl rfl rfl ?_
      intro s38 hH'
      replace hH : Hp sb s F0 s38 [Ck.emp, Ck.ov b2 [.int .i64 p0_0, .int .i64 p0_1, .slice A0_2p p0_2.length c0_2p, .int .i64 p0_3, .int .i64 p0_4] 55, Ck.ov b3 [.int .i64 0, .int .i64 0, .slice none 0 0, .int .i64 0, .int .i64 0] 55, Ck.ol OI 3 A32 c32 u31.2.2.1, Ck.ov b33 [.int .i64 u31.1, .int .i64 u31.2.1, .slice A37 u36.length c37, .int .i64 u31.2.2.2.1, .int .i64 u31.2.2.2.2] 55, Ck.ol OI 3 A37 c37 u36] := hH'
      clear hH'
      try dsimp only [putL, setL, evL, getL]
      refine HL_nil ?_
      refine hK35 _ _ ?_
      refine HT_seq_k ?_
      intro K39 hK39
      refine HT_region ?_
      refine HL_cons rfl ?_
      refine o_loads' [.int .i64 u31.1, .int .i64 u31.2.1, .slice A37 u36.length c37, .int .i64 u31.2.2.2.1, .int .i64 u31.2.2.2.2] rfl Try.underlying55 rfl tI55 rfl (hH.partv 4 rfl (0) [.int .i64 u31.1, .int .i64 u31.2.1, .slice A37 u36.length c37, .int .i64 u31.2.2.2.1, .int .i64 u31.2.2.2.2] rfl) ?_
      try dsimp only [putL, setL, evL, getL]
      refine HL_cons rfl ?_
      refine o_stvH (vs := [.int .i64 u31.1, .int .i64 u31.2.1, .slice A37 u36.length c37, .int .i64 u31.2.2.2.1, .int .i64 u31.2.2.2.2]) (us' := [.int .i64 u31.1, .int .i64 u31.2.1, .slice A37 u36.length c37, .int .i64 u31.2.2.2.1, .int .i64 u31.2.2.2.2]) hH 2 rfl rfl rfl rfl rfl tI55 rfl (List.cons_ne_nil _ _) rfl rfl rfl ?_
      intro s40 hH'
      replace hH : Hp sb s F0 s40 [Ck.emp, Ck.ov b2 [.int .i64 p0_0, .int .i64 p0_1, .slice A0_2p p0_2.length c0_2p, .int .i64 p0_3, .int .i64 p0_4] 55, Ck.ov b3 [.int .i64 u31.1, .int .i64 u31.2.1, .slice A37 u36.length c37, .int .i64 u31.2.2.2.1, .int .i64 u31.2.2.2.2] 55, Ck.ol OI 3 A32 c32 u31.2.2.1, Ck.ov b33 [.int .i64 u31.1, .int .i64 u31.2.1, .slice A37 u36.length c37, .int .i64 u31.2.2.2.1, .int .i64 u31.2.2.2.2] 55, Ck.ol OI 3 A37 c37 u36] := hH'
      clear hH'
      try dsimp only [putL, setL, evL, getL]
      refine HL_cons rfl ?_
      refine o_assign ?_
      try dsimp only [putL, setL, evL, getL]
      refine HL_nil ?_
      refine hK39 _ _ ?_
      refine HT_ret ?_
      obtain rfl := Option.some.inj (show some _ = some r from H)
      exact hQr _ _ [.agg #[.int .i64 u31.1, .int .i64 u31.2.1, .slice A37 u36.length c37, .int .i64 u31.2.2.2.1, .int .i64 u31.2.2.2.2], .bool true] ⟨ResV.cells rfl Try.underlying55 rfl tI55 (hH.var 2 rfl) rfl, rfl, trivial⟩ ⟨A37, c37, rfl, hH.sel [5] (by decide)⟩
def impl_inRange.f (p0 : Int) (p1 : Int) (p2 : Int) : Option Bool := if (decide (p1 ≤ p0)) = true then (some (decide (p0 ≤ p2))) else (some false)
def impl_inRange.post (sb s : St) (F0 : Fp) (r : Bool) : Value → St → Prop := fun v s' => v = .bool r ∧ Hp sb s F0 s' []
set_option maxRecDepth 100000 in
set_option maxHeartbeats 4000000 in
theorem impl_inRange.ok (sb s : St) (F0 : Fp) (p0 : Int) (p1 : Int) (p2 : Int) (hH : Hp sb s F0 s []) (r : Bool) (H : impl_inRange.f p0 p1 p2 = some r) : GCall Try.prog 86 #[.int .i64 p0, .int .i64 p1, .int .i64 p2] s (impl_inRange.post sb s F0 r) := by
  refine GCall_ofk [.tmp 6] [.int .i64 p0, .int .i64 p1, .int .i64 p2, undef, undef, undef, undef, undef, undef, undef, undef, undef, undef, undef, undef] Try.func86 rfl rfl rfl ?_
  intro w Q hQr hQn hQp
  replace H := topE H
  unfold impl_inRange.f at H
  refine HT_seq_k ?_
  intro K1 hK1
  refine HT_region ?_
  refine HL_cons rfl ?_
  refine o_assign ?_
  try dsimp only [putL, setL, evL, getL]
  refine HL_nil ?_
  refine hK1 _ _ ?_
  refine HT_seq_k ?_
  intro K2 hK2
  refine HT_region ?_
  refine HL_cons rfl ?_
  refine o_move ?_
  try dsimp only [putL, setL, evL, getL]
  refine HL_cons rfl ?_
  refine o_move ?_
  try dsimp only [putL, setL, evL, getL]
  refine HL_cons rfl ?_
  refine o_bin rfl rfl rfl ?_
  try dsimp only [putL, setL, evL, getL]
  refine HL_cons rfl ?_
  refine o_move ?_
  try dsimp only [putL, setL, evL, getL]
  rcases Bool.eq_false_or_eq_true (decide (p1 ≤ p0)) with hb3 | hb3
  · replace H := iteT hb3 H
    refine HL_want ?_ ?_
    · exact wantT (j := 3) (b := true) (t := 10) (c := decide (p1 ≤ p0)) rfl rfl rfl rfl hb3
    refine o_move ?_
    try dsimp only [putL, setL, evL, getL]
    refine HL_want ?_ ?_
    · exact wantT (j := 3) (b := true) (t := 10) (c := decide (p1 ≤ p0)) rfl rfl rfl rfl hb3
    refine o_move ?_
    try dsimp only [putL, setL, evL, getL]
    refine HL_want ?_ ?_
    · exact wantT (j := 3) (b := true) (t := 10) (c := decide (p1 ≤ p0)) rfl rfl rfl rfl hb3
    refine o_bin rfl rfl rfl ?_
    try dsimp only [putL, setL, evL, getL]
    refine HL_cons rfl ?_
    refine o_pickT rfl hb3 ?_
    try dsimp only [putL, setL, evL, getL]
    refine HL_cons rfl ?_
    refine o_assign ?_
    try dsimp only [putL, setL, evL, getL]
    refine HL_nil ?_
    refine hK2 _ _ ?_
    refine HT_ret ?_
    obtain rfl := Option.some.inj (show some _ = some r from H)
    exact hQr _ _ [.bool (decide (p0 ≤ p2))] ⟨rfl, trivial⟩ ⟨rfl, hH⟩
  · replace H := iteF hb3 H
    refine HL_skip ?_ ?_
    · exact wantF (j := 3) (b := true) (t := 10) (c := decide (p1 ≤ p0)) rfl rfl rfl rfl hb3
    try dsimp only [putL, setL, evL, getL]
    refine HL_skip ?_ ?_
    · exact wantF (j := 3) (b := true) (t := 10) (c := decide (p1 ≤ p0)) rfl rfl rfl rfl hb3
    try dsimp only [putL, setL, evL, getL]
    refine HL_skip ?_ ?_
    · exact wantF (j := 3) (b := true) (t := 10) (c := decide (p1 ≤ p0)) rfl rfl rfl rfl hb3
    try dsimp only [putL, setL, evL, getL]
    refine HL_cons rfl ?_
    refine o_pickF rfl hb3 ?_
    try dsimp only [putL, setL, evL, getL]
    refine HL_cons rfl ?_
    refine o_assign ?_
    try dsimp only [putL, setL, evL, getL]
    refine HL_nil ?_
    refine hK2 _ _ ?_
    refine HT_ret ?_
    obtain rfl := Option.some.inj (show some _ = some r from H)
    exact hQr _ _ [.bool false] ⟨rfl, trivial⟩ ⟨rfl, hH⟩
def impl_isPlace.f (p0 : Int) (p1 : Int) : Option Bool := (impl_inRange.f p0 0 (IntKind.i64.wrap (p1 - 1))).bind fun u3 => some u3
def impl_isPlace.post (sb s : St) (F0 : Fp) (r : Bool) : Value → St → Prop := fun v s' => v = .bool r ∧ Hp sb s F0 s' []
set_option maxRecDepth 100000 in
set_option maxHeartbeats 4000000 in
theorem impl_isPlace.ok (sb s : St) (F0 : Fp) (p0 : Int) (p1 : Int) (hH : Hp sb s F0 s []) (r : Bool) (H : impl_isPlace.f p0 p1 = some r) : GCall Try.prog 126 #[.int .i64 p0, .int .i64 p1] s (impl_isPlace.post sb s F0 r) := by
  refine GCall_ofk [.tmp 4] [.int .i64 p0, .int .i64 p1, undef, undef, undef, undef, undef, undef, undef] Try.func126 rfl rfl rfl ?_
  intro w Q hQr hQn hQp
  replace H := topE H
  unfold impl_isPlace.f at H
  refine HT_seq_k ?_
  intro K1 hK1
  refine HT_region ?_
  refine HL_cons rfl ?_
  refine o_assign ?_
  try dsimp only [putL, setL, evL, getL]
  refine HL_nil ?_
  refine hK1 _ _ ?_
  refine HT_seq_k ?_
  intro K2 hK2
  refine HT_region ?_
  refine HL_cons rfl ?_
  refine o_move ?_
  try dsimp only [putL, setL, evL, getL]
  refine HL_cons rfl ?_
  refine o_move ?_
  try dsimp only [putL, setL, evL, getL]
  refine HL_cons rfl ?_
  refine o_bin rfl rfl rfl ?_
  try dsimp only [putL, setL, evL, getL]
  obtain ⟨u3, hu3, H⟩ := headE H
  refine HL_cons rfl ?_
  refine o_call (args := #[.int .i64 p0, .int .i64 0, .int .i64 (IntKind.i64.wrap (p1 - 1))]) Try.func86 rfl rfl rfl (impl_inRange.ok sb s no p0 0 (IntKind.i64.wrap (p1 - 1)) (Hp.own hH.bs) _ hu3) ?_
  rintro _ s3 ⟨rfl, hD⟩
  replace hH := hH.back0 hD (Up.refl _ _ _)
  clear hD
  dsimp only [addC, setC, rmC, selC, getC] at hH
  try dsimp only [putL, setL, evL, getL]
  refine HL_cons rfl ?_
  refine o_assign ?_
  try dsimp only [putL, setL, evL, getL]
  refine HL_nil ?_
  refine hK2 _ _ ?_
  refine HT_ret ?_
  obtain rfl := Option.some.inj (show some _ = some r from H)
  exact hQr _ _ [.bool u3] ⟨rfl, trivial⟩ ⟨rfl, hH⟩
def impl_GoodRune.f (p0 : Int) : Option Bool := (impl_inRange.f p0 0 1114111).bind fun u3 => if u3 = true then ((impl_inRange.f p0 55296 57343).bind fun u5 => some (!u5)) else (some false)
def impl_GoodRune.post (sb s : St) (F0 : Fp) (r : Bool) : Value → St → Prop := fun v s' => v = .bool r ∧ Hp sb s F0 s' []
set_option maxRecDepth 100000 in
set_option maxHeartbeats 4000000 in
theorem impl_GoodRune.ok (sb s : St) (F0 : Fp) (p0 : Int) (hH : Hp sb s F0 s []) (r : Bool) (H : impl_GoodRune.f p0 = some r) : GCall Try.prog 147 #[.int .i64 p0] s (impl_GoodRune.post sb s F0 r) := by
  refine GCall_ofk [.tmp 2] [.int .i64 p0, undef, undef, undef, undef, undef, undef, undef, undef, undef] Try.func147 rfl rfl rfl ?_
  intro w Q hQr hQn hQp
  replace H := topE H
  unfold impl_GoodRune.f at H
  refine HT_seq_k ?_
  intro K1 hK1
  refine HT_region ?_
  refine HL_cons rfl ?_
  refine o_assign ?_
  try dsimp only [putL, setL, evL, getL]
  refine HL_nil ?_
  refine hK1 _ _ ?_
  refine HT_seq_k ?_
  intro K2 hK2
  refine HT_region ?_
  refine HL_cons rfl ?_
  refine o_move ?_
  try dsimp only [putL, setL, evL, getL]
  obtain ⟨u3, hu3, H⟩ := headE H
  refine HL_cons rfl ?_
  refine o_call (args := #[.int .i64 p0, .int .i64 0, .int .i64 1114111]) Try.func86 rfl rfl rfl (impl_inRange.ok sb s no p0 0 1114111 (Hp.own hH.bs) _ hu3) ?_
  rintro _ s3 ⟨rfl, hD⟩
  replace hH := hH.back0 hD (Up.refl _ _ _)
  clear hD
  dsimp only [addC, setC, rmC, selC, getC] at hH
  try dsimp only [putL, setL, evL, getL]
  refine HL_cons rfl ?_
  refine o_move ?_
  try dsimp only [putL, setL, evL, getL]
  rcases Bool.eq_false_or_eq_true u3 with hb4 | hb4
  · replace H := iteT hb4 H
    refine HL_want ?_ ?_
    · exact wantT (j := 2) (b := true) (t := 5) (c := u3) rfl rfl rfl rfl hb4
    refine o_move ?_
    try dsimp only [putL, setL, evL, getL]
    obtain ⟨u5, hu5, H⟩ := headE H
    refine HL_want ?_ ?_
    · exact wantT (j := 2) (b := true) (t := 5) (c := u3) rfl rfl rfl rfl hb4
    refine o_call (args := #[.int .i64 p0, .int .i64 55296, .int .i64 57343]) Try.func86 rfl rfl rfl (impl_inRange.ok sb s3 no p0 55296 57343 (Hp.own hH.bs) _ hu5) ?_
    rintro _ s5 ⟨rfl, hD⟩
    replace hH := hH.back0 hD (Up.refl _ _ _)
    clear hD
    dsimp only [addC, setC, rmC, selC, getC] at hH
    try dsimp only [putL, setL, evL, getL]
    refine HL_want ?_ ?_
    · exact wantT (j := 2) (b := true) (t := 5) (c := u3) rfl rfl rfl rfl hb4
    refine o_not rfl ?_
    try dsimp only [putL, setL, evL, getL]
    refine HL_cons rfl ?_
    refine o_pickT rfl hb4 ?_
    try dsimp only [putL, setL, evL, getL]
    refine HL_cons rfl ?_
    refine o_assign ?_
    try dsimp only [putL, setL, evL, getL]
    refine HL_nil ?_
    refine hK2 _ _ ?_
    refine HT_ret ?_
    obtain rfl := Option.some.inj (show some _ = some r from H)
    exact hQr _ _ [.bool (!u5)] ⟨rfl, trivial⟩ ⟨rfl, hH⟩
  · replace H := iteF hb4 H
    refine HL_skip ?_ ?_
    · exact wantF (j := 2) (b := true) (t := 5) (c := u3) rfl rfl rfl rfl hb4
    try dsimp only [putL, setL, evL, getL]
    refine HL_skip ?_ ?_
    · exact wantF (j := 2) (b := true) (t := 5) (c := u3) rfl rfl rfl rfl hb4
    try dsimp only [putL, setL, evL, getL]
    refine HL_skip ?_ ?_
    · exact wantF (j := 2) (b := true) (t := 5) (c := u3) rfl rfl rfl rfl hb4
    try dsimp only [putL, setL, evL, getL]
    refine HL_cons rfl ?_
    refine o_pickF rfl hb4 ?_
    try dsimp only [putL, setL, evL, getL]
    refine HL_cons rfl ?_
    refine o_assign ?_
    try dsimp only [putL, setL, evL, getL]
    refine HL_nil ?_
    refine hK2 _ _ ?_
    refine HT_ret ?_
    obtain rfl := Option.some.inj (show some _ = some r from H)
    exact hQr _ _ [.bool false] ⟨rfl, trivial⟩ ⟨rfl, hH⟩
def impl_GoodScreen_1.f (p0 : Int) : Option Bool := if (decide (p0 < 32)) = true then (some true) else ((impl_GoodRune.f p0).bind fun u4 => some (!u4))
def impl_GoodScreen_1.post (sb s : St) (F0 : Fp) (r : Bool) : Value → St → Prop := fun v s' => v = .bool r ∧ Hp sb s F0 s' []
set_option maxRecDepth 100000 in
set_option maxHeartbeats 4000000 in
theorem impl_GoodScreen_1.ok (sb s : St) (F0 : Fp) (p0 : Int) (hH : Hp sb s F0 s []) (r : Bool) (H : impl_GoodScreen_1.f p0 = some r) : GCall Try.prog 146 #[.int .i64 p0] s (impl_GoodScreen_1.post sb s F0 r) := by
  refine GCall_ofk [.tmp 2] [.int .i64 p0, undef, undef, undef, undef, undef, undef, undef, undef, undef] Try.func146 rfl rfl rfl ?_
  intro w Q hQr hQn hQp
  replace H := topE H
  unfold impl_GoodScreen_1.f at H
  refine HT_seq_k ?_
  intro K1 hK1
  refine HT_region ?_
  refine HL_cons rfl ?_
  refine o_assign ?_
  try dsimp only [putL, setL, evL, getL]
  refine HL_nil ?_
  refine hK1 _ _ ?_
  refine HT_seq_k ?_
  intro K2 hK2
  refine HT_region ?_
  refine HL_cons rfl ?_
  refine o_move ?_
  try dsimp only [putL, setL, evL, getL]
  refine HL_cons rfl ?_
  refine o_bin rfl rfl rfl ?_
  try dsimp only [putL, setL, evL, getL]
  refine HL_cons rfl ?_
  refine o_move ?_
  try dsimp only [putL, setL, evL, getL]
  rcases Bool.eq_false_or_eq_true (decide (p0 < 32)) with hb3 | hb3
  · replace H := iteT hb3 H
    refine HL_skip ?_ ?_
    · exact wantF (j := 2) (b := false) (t := 5) (c := decide (p0 < 32)) rfl rfl rfl rfl hb3
    try dsimp only [putL, setL, evL, getL]
    refine HL_skip ?_ ?_
    · exact wantF (j := 2) (b := false) (t := 5) (c := decide (p0 < 32)) rfl rfl rfl rfl hb3
    try dsimp only [putL, setL, evL, getL]
    refine HL_skip ?_ ?_
    · exact wantF (j := 2) (b := false) (t := 5) (c := decide (p0 < 32)) rfl rfl rfl rfl hb3
    try dsimp only [putL, setL, evL, getL]
    refine HL_cons rfl ?_
    refine o_pickT rfl hb3 ?_
    try dsimp only [putL, setL, evL, getL]
    refine HL_cons rfl ?_
    refine o_assign ?_
    try dsimp only [putL, setL, evL, getL]
    refine HL_nil ?_
    refine hK2 _ _ ?_
    refine HT_ret ?_
    obtain rfl := Option.some.inj (show some _ = some r from H)
    exact hQr _ _ [.bool true] ⟨rfl, trivial⟩ ⟨rfl, hH⟩
  · replace H := iteF hb3 H
    refine HL_want ?_ ?_
    · exact wantT (j := 2) (b := false) (t := 5) (c := decide (p0 < 32)) rfl rfl rfl rfl hb3
    refine o_move ?_
    try dsimp only [putL, setL, evL, getL]
    obtain ⟨u4, hu4, H⟩ := headE H
    refine HL_want ?_ ?_
    · exact wantT (j := 2) (b := false) (t := 5) (c := decide (p0 < 32)) rfl rfl rfl rfl hb3
    refine o_call (args := #[.int .i64 p0]) Try.func147 rfl rfl rfl (impl_GoodRune.ok sb s no p0 (Hp.own hH.bs) _ hu4) ?_
    rintro _ s4 ⟨rfl, hD⟩
    replace hH := hH.back0 hD (Up.refl _ _ _)
    clear hD
    dsimp only [addC, setC, rmC, selC, getC] at hH
    try dsimp only [putL, setL, evL, getL]
    refine HL_want ?_ ?_
    · exact wantT (j := 2) (b := false) (t := 5) (c := decide (p0 < 32)) rfl rfl rfl rfl hb3
    refine o_not rfl ?_
    try dsimp only [putL, setL, evL, getL]
    refine HL_cons rfl ?_
    refine o_pickF rfl hb3 ?_
    try dsimp only [putL, setL, evL, getL]
    refine HL_cons rfl ?_
    refine o_assign ?_
    try dsimp only [putL, setL, evL, getL]
    refine HL_nil ?_
    refine hK2 _ _ ?_
    refine HT_ret ?_
    obtain rfl := Option.some.inj (show some _ = some r from H)
    exact hQr _ _ [.bool (!u4)] ⟨rfl, trivial⟩ ⟨rfl, hH⟩
def slices_IndexFunc_int_int_impl_GoodScreen_1.l1 (p0 : List (Int)) : Nat → Int → Option (Lo Unit Int)
  | 0, _ => none
  | kf + 1, x48 => if (decide (x48 < (p0.length : Int))) = true then ((rd? p0 x48).bind fun u67 => (impl_GoodScreen_1.f u67).bind fun u68 => if u68 = true then ((some x48).bind fun z => some (Lo.ret z)) else (slices_IndexFunc_int_int_impl_GoodScreen_1.l1 p0 kf (IntKind.i64.wrap (x48 + 1)))) else (some (Lo.go ()))
def slices_IndexFunc_int_int_impl_GoodScreen_1.f (p0 : List (Int)) : Option Int := (slices_IndexFunc_int_int_impl_GoodScreen_1.l1 p0 ((((p0.length : Int)) - (0)).toNat + 2) 0).bind fun (o : Lo Unit Int) => match o with | .go () => (some (-1)) | .ret z => some z
def slices_IndexFunc_int_int_impl_GoodScreen_1.post (sb s : St) (F0 : Fp) (r : Int) : Value → St → Prop := fun v s' => v = .int .i64 r ∧ Hp sb s F0 s' []
set_option maxRecDepth 100000 in
set_option maxHeartbeats 4000000 in
theorem slices_IndexFunc_int_int_impl_GoodScreen_1.ok (sb s : St) (F0 : Fp) (A0p : Option Addr) (c0p : Nat) (p0 : List (Int)) (HRp0 : Rd KI sb A0p c0p p0) (hH : Hp sb s F0 s []) (r : Int) (H : slices_IndexFunc_int_int_impl_GoodScreen_1.f p0 = some r) : GCall Try.prog 151 #[.slice A0p p0.length c0p, .func (.func 146) #[] #[]] s (slices_IndexFunc_int_int_impl_GoodScreen_1.post sb s F0 r) := by
  refine GCall_ofk [.tmp 4] [.slice A0p p0.length c0p, .func (.func 146) #[] #[], undef, undef, undef, undef, undef, undef, undef, undef, undef, undef, undef, undef, undef, undef, undef, undef, undef] Try.func151 rfl rfl rfl ?_
  intro w Q hQr hQn hQp
  replace H := topE H
  unfold slices_IndexFunc_int_int_impl_GoodScreen_1.f at H
  refine HT_seq_k ?_
  intro K1 hK1
  refine HT_region ?_
  refine HL_cons rfl ?_
  refine o_assign ?_
  try dsimp only [putL, setL, evL, getL]
  refine HL_nil ?_
  refine hK1 _ _ ?_
  refine HT_seq_k ?_
  intro K2 hK2
  refine HT_seq_k ?_
  intro K3 hK3
  refine HT_region ?_
  refine HL_cons rfl ?_
  refine o_move ?_
  try dsimp only [putL, setL, evL, getL]
  refine HL_cons rfl ?_
  refine o_len rfl Try.underlying22 ?_
  try dsimp only [putL, setL, evL, getL]
  refine HL_cons rfl ?_
  refine o_move ?_
  try dsimp only [putL, setL, evL, getL]
  refine HL_nil ?_
  refine hK3 _ _ ?_
  refine joinH H fun G4 hG4 H => ?_
  refine HT_toK (fun l' s' => G4 (.go ()) = some r ∧ l' = [.slice A0p p0.length c0p, .func (.func 146) #[] #[], undef, undef, getL l' 4, getL l' 5, .slice A0p p0.length c0p, .int .i64 (p0.length : Int), getL l' 8, getL l' 9, getL l' 10, getL l' 11, getL l' 12, getL l' 13, getL l' 14, getL l' 15, getL l' 16, getL l' 17, getL l' 18] ∧ Hp sb s F0 s' []) ?_ ?_
  · intro K4 hK4
    refine HT_block ?_
    refine HT_loopK (fun kf l' s' => ∃ (x48 : Int), (slices_IndexFunc_int_int_impl_GoodScreen_1.l1 p0 kf x48).bind G4 = some r ∧ l' = [.slice A0p p0.length c0p, .func (.func 146) #[] #[], undef, undef, getL l' 4, getL l' 5, .slice A0p p0.length c0p, .int .i64 (p0.length : Int), .int .i64 x48, getL l' 9, getL l' 10, getL l' 11, getL l' 12, getL l' 13, getL l' 14, getL l' 15, getL l' 16, getL l' 17, getL l' 18] ∧ Hp sb s F0 s' []) ((((p0.length : Int)) - (0)).toNat + 2) ⟨0, H, rfl, hH⟩ ?_
    rintro kf l' s60 ⟨x48, H, hl, hH⟩ K60 hK60
    generalize getL l' 4 = j4, getL l' 5 = j5, getL l' 9 = j9, getL l' 10 = j10, getL l' 11 = j11, getL l' 12 = j12, getL l' 13 = j13, getL l' 14 = j14, getL l' 15 = j15, getL l' 16 = j16, getL l' 17 = j17, getL l' 18 = j18 at hl
    subst hl
    cases kf with
    | zero => simp [slices_IndexFunc_int_int_impl_GoodScreen_1.l1] at H
    | succ kf =>
      rw [slices_IndexFunc_int_int_impl_GoodScreen_1.l1] at H
      refine HT_seq_k ?_
      intro K61 hK61
      refine HT_region ?_
      refine HL_cons rfl ?_
      refine o_bin rfl rfl rfl ?_
      try dsimp only [putL, setL, evL, getL]
      refine HL_nil ?_
      refine hK61 _ _ ?_
      refine HT_seq_k ?_
      intro K62 hK62
      rcases Bool.eq_false_or_eq_true (decide (x48 < (p0.length : Int))) with hb63 | hb63
      · replace H := iteT hb63 H
        refine HT_true (congrArg Value.bool hb63) ?_
        refine HT_skip ?_
        refine hK62 _ _ ?_
        refine HT_seq_k ?_
        intro K64 hK64
        refine HT_block ?_
        refine HT_seq_k ?_
        intro K65 hK65
        refine HT_region ?_
        refine HL_cons rfl ?_
        refine o_move ?_
        try dsimp only [putL, setL, evL, getL]
        refine HL_cons rfl ?_
        refine o_assign ?_
        try dsimp only [putL, setL, evL, getL]
        refine HL_nil ?_
        refine hK65 _ _ ?_
        refine HT_seq_k ?_
        intro K66 hK66
        refine HT_region ?_
        refine HL_cons rfl ?_
        refine o_move ?_
        try dsimp only [putL, setL, evL, getL]
        refine HL_cons rfl ?_
        refine o_move ?_
        try dsimp only [putL, setL, evL, getL]
        refine HL_cons rfl ?_
        refine o_move ?_
        try dsimp only [putL, setL, evL, getL]
        obtain ⟨u67, hu67, H⟩ := headE H
        obtain ⟨b67, o67, cs67, hr67, hh67, hel67⟩ := Rd.elb HRp0 hu67
        obtain rfl := hr67
        refine HL_cons rfl ?_
        refine hel67 s60 rfl rfl Try.underlying22 tI3 ?_
        try dsimp only [putL, setL, evL, getL]
        refine HL_cons rfl ?_
        refine o_load' rfl Try.underlying3 rfl ((hh67 hH.bs.mono) 0 _ rfl) ?_
        try dsimp only [putL, setL, evL, getL]
        obtain ⟨u68, hu68, H⟩ := headE H
        refine HL_cons rfl ?_
        refine o_callv (first := #[]) (cap := #[]) (args := #[.int .i64 u67]) rfl Try.func146 rfl rfl [.int .i64 u67] rfl (by simp) (impl_GoodScreen_1.ok sb s60 no u67 (Hp.own hH.bs) _ hu68) ?_
        rintro _ s68 ⟨rfl, hD⟩
        replace hH := hH.back0 hD (Up.refl _ _ _)
        clear hD
        dsimp only [addC, setC, rmC, selC, getC] at hH
        try dsimp only [putL, setL, evL, getL]
        refine HL_nil ?_
        refine hK66 _ _ ?_
        rcases Bool.eq_false_or_eq_true u68 with hb69 | hb69
        · replace H := iteT hb69 H
          refine HT_true (congrArg Value.bool hb69) ?_
          refine HT_seq_k ?_
          intro K70 hK70
          refine HT_region ?_
          refine HL_cons rfl ?_
          refine o_move ?_
          try dsimp only [putL, setL, evL, getL]
          refine HL_cons rfl ?_
          refine o_assign ?_
          try dsimp only [putL, setL, evL, getL]
          refine HL_nil ?_
          refine hK70 _ _ ?_
          refine HT_ret ?_
          replace H := escH (fun z hz => hG4 _ hz) H
          obtain rfl := Option.some.inj (show some _ = some r from H)
          exact hQr _ _ [.int .i64 x48] ⟨rfl, trivial⟩ ⟨rfl, hH⟩
        · replace H := iteF hb69 H
          refine HT_false (congrArg Value.bool hb69) ?_
          refine HT_skip ?_
          refine hK64 _ _ ?_
          refine HT_region ?_
          refine HL_cons rfl ?_
          refine o_bin rfl rfl rfl ?_
          try dsimp only [putL, setL, evL, getL]
          refine HL_cons rfl ?_
          refine o_move ?_
          try dsimp only [putL, setL, evL, getL]
          refine HL_nil ?_
          exact hK60 _ _ ⟨kf, Nat.lt_succ_self kf, IntKind.i64.wrap (x48 + 1), H, rfl, hH⟩
      · replace H := iteF hb63 H
        refine HT_false (congrArg Value.bool hb63) ?_
        refine HT_exit ?_
        exact hK4 _ _ ⟨H, rfl, hH⟩
  · rintro l' s71 ⟨H, hl, hH⟩
    generalize getL l' 4 = j4, getL l' 5 = j5, getL l' 8 = j8, getL l' 9 = j9, getL l' 10 = j10, getL l' 11 = j11, getL l' 12 = j12, getL l' 13 = j13, getL l' 14 = j14, getL l' 15 = j15, getL l' 16 = j16, getL l' 17 = j17, getL l' 18 = j18 at hl
    subst hl
    replace H := hG4 _ H
    try dsimp only at H
    refine hK2 _ _ ?_
    refine HT_seq_k ?_
    intro K72 hK72
    refine HT_region ?_
    refine HL_cons rfl ?_
    refine o_assign ?_
    try dsimp only [putL, setL, evL, getL]
    refine HL_nil ?_
    refine hK72 _ _ ?_
    refine HT_ret ?_
    obtain rfl := Option.some.inj (show some _ = some r from H)
    exact hQr _ _ [.int .i64 (-1)] ⟨rfl, trivial⟩ ⟨rfl, hH⟩
def slices_ContainsFunc_int_int_impl_GoodScreen_1.f (p0 : List (Int)) : Option Bool := (slices_IndexFunc_int_int_impl_GoodScreen_1.f p0).bind fun u3 => some (decide (u3 ≥ 0))
def slices_ContainsFunc_int_int_impl_GoodScreen_1.post (sb s : St) (F0 : Fp) (r : Bool) : Value → St → Prop := fun v s' => v = .bool r ∧ Hp sb s F0 s' []
set_option maxRecDepth 100000 in
set_option maxHeartbeats 4000000 in
theorem slices_ContainsFunc_int_int_impl_GoodScreen_1.ok (sb s : St) (F0 : Fp) (A0p : Option Addr) (c0p : Nat) (p0 : List (Int)) (HRp0 : Rd KI sb A0p c0p p0) (hH : Hp sb s F0 s []) (r : Bool) (H : slices_ContainsFunc_int_int_impl_GoodScreen_1.f p0 = some r) : GCall Try.prog 110 #[.slice A0p p0.length c0p, .func (.func 146) #[] #[]] s (slices_ContainsFunc_int_int_impl_GoodScreen_1.post sb s F0 r) := by
  refine GCall_ofk [.tmp 4] [.slice A0p p0.length c0p, .func (.func 146) #[] #[], undef, undef, undef, undef, undef, undef, undef] Try.func110 rfl rfl rfl ?_
  intro w Q hQr hQn hQp
  replace H := topE H
  unfold slices_ContainsFunc_int_int_impl_GoodScreen_1.f at H
  refine HT_seq_k ?_
  intro K1 hK1
  refine HT_region ?_
  refine HL_cons rfl ?_
  refine o_assign ?_
  try dsimp only [putL, setL, evL, getL]
  refine HL_nil ?_
  refine hK1 _ _ ?_
  refine HT_seq_k ?_
  intro K2 hK2
  refine HT_region ?_
  refine HL_cons rfl ?_
  refine o_move ?_
  try dsimp only [putL, setL, evL, getL]
  refine HL_cons rfl ?_
  refine o_move ?_
  try dsimp only [putL, setL, evL, getL]
  obtain ⟨u3, hu3, H⟩ := headE H
  refine HL_cons rfl ?_
  refine o_call (args := #[.slice A0p p0.length c0p, .func (.func 146) #[] #[]]) Try.func151 rfl rfl rfl (slices_IndexFunc_int_int_impl_GoodScreen_1.ok sb s no A0p c0p p0 HRp0 (Hp.own hH.bs) _ hu3) ?_
  rintro _ s3 ⟨rfl, hD⟩
  replace hH := hH.back0 hD (Up.refl _ _ _)
  clear hD
  dsimp only [addC, setC, rmC, selC, getC] at hH
  try dsimp only [putL, setL, evL, getL]
  refine HL_cons rfl ?_
  refine o_bin rfl rfl rfl ?_
  try dsimp only [putL, setL, evL, getL]
  refine HL_cons rfl ?_
  refine o_assign ?_
  try dsimp only [putL, setL, evL, getL]
  refine HL_nil ?_
  refine hK2 _ _ ?_
  refine HT_ret ?_
  obtain rfl := Option.some.inj (show some _ = some r from H)
  exact hQr _ _ [.bool (decide (u3 ≥ 0))] ⟨rfl, trivial⟩ ⟨rfl, hH⟩
end Go.Proofs.Ytopecknfnhocpaa
